/- What a call hands back: slices over arrays of its own change hands. -/
import Derived.Test.YtjjmechghfjbmaaAmHide
set_option linter.unusedVariables false
set_option linter.unusedSimpArgs false
set_option linter.unnecessarySimpa false
namespace Am
open Go

/-- A slice that changes hands: the cells of a row, the rows, the value. -/
abbrev FE := Nat × List (List AV) × Value

inductive RC (g : Ghost) : AV → Value → List FE → Prop
  | fresh (k : Nat) (rows : List (List AV)) (u : Value) (h : u.oneCell' = true) : RC g (.fresh k rows) u [(k, rows, u)]
  | val (v : AV) (u : Value) (h : V g v u) : RC g v u []
inductive RCs (g : Ghost) : List AV → List Value → List FE → Prop
  | nil : RCs g [] [] []
  | cons (v : AV) (u : Value) (f : List FE) (l : List AV) (us : List Value) (fs : List FE) (h : RC g v u f) (k : RCs g l us fs) : RCs g (v :: l) (u :: us) (f ++ fs)
inductive RV (g : Ghost) : AV → Value → List FE → Prop
  | agg (cs : List AV) (vs : Array Value) (fs : List FE) (h : RCs g cs vs.toList fs) (h1 : ∀ x ∈ vs.toList, x.oneCell' = true) : RV g (.agg cs) (.agg vs) fs
  | one (v : AV) (u : Value) (fs : List FE) (hv : ∀ cs, v ≠ .agg cs) (h : RC g v u fs) : RV g v u fs
inductive RVs (g : Ghost) : List AV → List Value → List FE → Prop
  | nil : RVs g [] [] []
  | cons (v : AV) (u : Value) (f : List FE) (l : List AV) (us : List Value) (fs : List FE) (h : RV g v u f) (k : RVs g l us fs) : RVs g (v :: l) (u :: us) (f ++ fs)

theorem RC.mono {g g' : Ghost} (hg : g.le g') {v : AV} {u : Value} {fs : List FE} (h : RC g v u fs) : RC g' v u fs := by
  cases h with
  | fresh k rows _ h => exact .fresh k rows u h
  | val _ _ h => exact .val v u (h.mono hg)
theorem RCs.mono {g g' : Ghost} (hg : g.le g') {v : List AV} {u : List Value} {fs : List FE} (h : RCs g v u fs) : RCs g' v u fs := by
  induction h with
  | nil => exact .nil
  | cons v u f l us fs h k ih => exact .cons v u f l us fs (h.mono hg) ih
theorem RV.mono {g g' : Ghost} (hg : g.le g') {v : AV} {u : Value} {fs : List FE} (h : RV g v u fs) : RV g' v u fs := by
  cases h with
  | agg cs vs _ h h1 => exact .agg cs vs fs (h.mono hg) h1
  | one _ _ _ hv h => exact .one v u fs hv (h.mono hg)
theorem RVs.mono {g g' : Ghost} (hg : g.le g') {v : List AV} {u : List Value} {fs : List FE} (h : RVs g v u fs) : RVs g' v u fs := by
  induction h with
  | nil => exact .nil
  | cons v u f l us fs h k ih => exact .cons v u f l us fs (h.mono hg) ih

theorem RC.cut {g : Ghost} {N : Nat} {v : AV} {u : Value} {fs : List FE} (h : RC g v u fs) (hb : v.bd N = true) : RC (cutG N g) v u fs := by
  cases h with
  | fresh k rows _ h => exact .fresh k rows u h
  | val _ _ h => exact .val v u (h.cut hb)
theorem RCs.cut {g : Ghost} {N : Nat} {v : List AV} {u : List Value} {fs : List FE} (h : RCs g v u fs) (hb : bdL N v = true) : RCs (cutG N g) v u fs := by
  induction h with
  | nil => exact .nil
  | cons v u f l us fs h k ih => simp only [bdL, Bool.and_eq_true] at hb; exact .cons v u f l us fs (h.cut hb.1) (ih hb.2)
theorem RV.cut {g : Ghost} {N : Nat} {v : AV} {u : Value} {fs : List FE} (h : RV g v u fs) (hb : v.bd N = true) : RV (cutG N g) v u fs := by
  cases h with
  | agg cs vs _ h h1 => exact .agg cs vs fs (h.cut (by simpa only [AV.bd] using hb)) h1
  | one _ _ _ hv h => exact .one v u fs hv (h.cut hb)
theorem RVs.cut {g : Ghost} {N : Nat} {v : List AV} {u : List Value} {fs : List FE} (h : RVs g v u fs) (hb : bdL N v = true) : RVs (cutG N g) v u fs := by
  induction h with
  | nil => exact .nil
  | cons v u f l us fs h k ih => simp only [bdL, Bool.and_eq_true] at hb; exact .cons v u f l us fs (h.cut hb.1) (ih hb.2)

def FE.blk (e : FE) : Option Nat := (GB.arr e.1 e.2.2).blk

section
variable {MC : Nat → Code → ACode → Prop} {P : Program} {B0 : Nat}

/-- The blocks that may change hands since H0. -/
def OkB (B0 : Nat) (H0 : AHeap) (g0 : Ghost) (w0 : World) (β : Nat) : Prop := B0 ≤ β ∧ (w0.heap.size ≤ β ∨ Held H0 g0 β)

theorem OkB.back {H H1 : AHeap} {g g1 : Ghost} {w w1 : World} (hE : Ext H g w H1 g1 w1) {β : Nat} (h : OkB B0 H1 g1 w1 β) : OkB B0 H g w β := by
  refine ⟨h.1, ?_⟩
  rcases h.2 with h2 | ⟨j, o, hj, hw, hb⟩
  · exact .inl (Nat.le_trans hE.size h2)
  · rcases hE.blk j β hb with h3 | h3 | h3
    · rcases hE.wit j o hj hw with h4 | ⟨o2, h4, h5⟩
      · rw [h4] at h3; simp [GB.blk] at h3
      · exact .inr ⟨j, o2, h4, h5, h3⟩
    · exact .inl h3
    · exact .inr h3
theorem OkB.ofRo {H : AHeap} {g g1 : Ghost} {w : World} {β : Nat} (h : OkB B0 (H.map AO.toRo) g1 w β) : OkB B0 H g w β := by
  refine ⟨h.1, ?_⟩
  rcases h.2 with h2 | ⟨j, o, hj, hw, hb⟩
  · exact .inl h2
  · rw [List.getElem?_map] at hj
    cases hq : H[j]? with
    | none => simp [hq] at hj
    | some o' => simp [hq] at hj; subst hj; rw [toRo_W] at hw; cases hw

/-- It is nobody's. -/
structure FOk (MC : Nat → Code → ACode → Prop) (P : Program) (g : Ghost) (w : World) (lo : Nat → Prop) (e : FE) : Prop where
  box : BoxOk MC P g w (.arr e.1 false e.2.1) (.arr e.1 e.2.2)
  own : ∀ β, e.blk = some β → lo β ∧ β < w.heap.size ∧ ∀ i, (g.L i).blk ≠ some β

def Apart (e f : FE) : Prop := ∀ β, e.blk = some β → f.blk ≠ some β

structure FsOk (MC : Nat → Code → ACode → Prop) (P : Program) (g : Ghost) (w : World) (lo : Nat → Prop) (fs : List FE) : Prop where
  ok : ∀ e ∈ fs, FOk MC P g w lo e
  apart : fs.Pairwise Apart

theorem FsOk.nil {g : Ghost} {w : World} {lo : Nat → Prop} : FsOk MC P g w lo [] := ⟨by simp, .nil⟩

/-- The ghost turns, and takes none of these. -/
theorem FOk.turn {g g' : Ghost} {w w' : World} {lo : Nat → Prop} {e : FE} (h : FOk MC P g w lo e) (hle : g.le g') (hsize : w.heap.size ≤ w'.heap.size)
    (hb : ∀ β, e.blk = some β → w'.heap[β]? = w.heap[β]? ∧ ∀ o, g'.Φ β o = g.Φ β o) (hL : ∀ i β, e.blk = some β → (g'.L i).blk ≠ some β) : FOk MC P g' w' lo e :=
  ⟨h.box.mono hle hb, fun β hβ => ⟨(h.own β hβ).1, Nat.lt_of_lt_of_le (h.own β hβ).2.1 hsize, fun i => hL i β hβ⟩⟩

/-- Over a turn that leaves what is nobody's. -/
theorem FOk.ext {H H' : AHeap} {g g' : Ghost} {w w' : World} {lo : Nat → Prop} {e : FE} (h : FOk MC P g w lo e) (hE : Ext H g w H' g' w') : FOk MC P g' w' lo e := by
  refine h.turn hE.le hE.size (fun β hβ => ?_) (fun i β hβ hc => ?_)
  · obtain ⟨_, h2, h3⟩ := h.own β hβ
    exact hE.frame β h2 (fun i o _ _ hc => h3 i hc)
  · obtain ⟨_, h2, h3⟩ := h.own β hβ
    rcases hE.blk i β hc with h4 | h4 | ⟨j, _, _, _, h4⟩
    · exact h3 i h4
    · omega
    · exact h3 j h4

theorem FsOk.ext {H H' : AHeap} {g g' : Ghost} {w w' : World} {lo : Nat → Prop} {fs : List FE} (h : FsOk MC P g w lo fs) (hE : Ext H g w H' g' w') : FsOk MC P g' w' lo fs :=
  ⟨fun e he => (h.ok e he).ext hE, h.apart⟩

theorem FOk.cut {g : Ghost} {w : World} {lo : Nat → Prop} {N : Nat} {e : FE} (h : FOk MC P g w lo e) : FOk MC P (cutG N g) w lo e :=
  ⟨h.box.cut trivial, fun β hβ => ⟨(h.own β hβ).1, (h.own β hβ).2.1, fun i hc => by
    simp only [cutG] at hc
    split at hc
    · exact (h.own β hβ).2.2 i hc
    · simp [GB.blk] at hc⟩⟩
theorem FsOk.cut {g : Ghost} {w : World} {lo : Nat → Prop} {N : Nat} {fs : List FE} (h : FsOk MC P g w lo fs) : FsOk MC P (cutG N g) w lo fs :=
  ⟨fun e he => (h.ok e he).cut, h.apart⟩

theorem FsOk.weaken {g : Ghost} {w : World} {lo lo' : Nat → Prop} {fs : List FE} (h : FsOk MC P g w lo fs) (hl : ∀ β, lo β → lo' β) : FsOk MC P g w lo' fs :=
  ⟨fun e he => ⟨(h.ok e he).box, fun β hβ => ⟨hl β ((h.ok e he).own β hβ).1, ((h.ok e he).own β hβ).2⟩⟩, h.apart⟩

/-- How memory stands as results go out, cell by cell. -/
structure Going (MC : Nat → Code → ACode → Prop) (P : Program) (B0 : Nat) (H : AHeap) (g : Ghost) (w : World) (H' : AHeap) (g' : Ghost) : Prop where
  rel : Rel MC P B0 H' g' w
  ext : Ext H g w H' g' w
  len : H'.length = H.length
  unb : ∀ i, g.L i = .none → g'.L i = .none
  blk : ∀ i β, (g'.L i).blk = some β → (g.L i).blk = some β

theorem Going.refl {H : AHeap} {g : Ghost} {w : World} (hR : Rel MC P B0 H g w) : Going MC P B0 H g w H g := ⟨hR, Ext.refl _ _ _, rfl, fun _ h => h, fun _ _ h => h⟩
theorem Going.trans {H H1 H2 : AHeap} {g g1 g2 : Ghost} {w : World} (h : Going MC P B0 H g w H1 g1) (k : Going MC P B0 H1 g1 w H2 g2) : Going MC P B0 H g w H2 g2 :=
  ⟨k.rel, h.ext.trans k.ext, k.len.trans h.len, fun i hi => k.unb i (h.unb i hi), fun i β hb => h.blk i β (k.blk i β hb)⟩
theorem Froze.going {H H' : AHeap} {g g' : Ghost} {w : World} (h : Froze MC P B0 H g w H' g') : Going MC P B0 H g w H' g' := ⟨h.rel, h.ext, h.len, fun i hi => by rw [h.L]; exact hi, fun i β hb => by rw [← h.L]; exact hb⟩

theorem Going.lo {H H' : AHeap} {g g' : Ghost} {w : World} {B : Nat} {lo : Nat → Prop} (h : Going MC P B0 H g w H' g') (hlo : ∀ i, B ≤ i → ∀ β, (g.L i).blk = some β → lo β) : ∀ i, B ≤ i → ∀ β, (g'.L i).blk = some β → lo β :=
  fun i hi β hb => hlo i hi β (h.blk i β hb)

/-- A box lets go of its block. -/
theorem Rel.letgo {H : AHeap} {g : Ghost} {w : World} {b k : Nat} {rows : List (List AV)} {u : Value} (hR : Rel MC P B0 H g w) (hg : H[b]? = some (.arr k false rows)) (hL : g.L b = .arr k u) {lo : Nat → Prop} (hlo : ∀ β, (g.L b).blk = some β → lo β) :
    ∃ g', Going MC P B0 H g w (hset H b .dead) g' ∧ FOk MC P g' w lo (k, rows, u) ∧ (∀ β, (GB.arr k u).blk = some β → (g.L b).blk = some β) ∧ ∀ i, i ≠ b → g'.L i = g.L i := by
  have hb := (List.getElem?_eq_some_iff.1 hg).1
  have hbox : BoxOk MC P g w (.arr k false rows) (.arr k u) := by have := hR.box b _ hg; rw [hL] at this; exact this
  have hup := hR.upd hb (.inl ⟨_, hg, rfl⟩) (o' := .dead) (gb' := .arr k (.slice none (slen u + 1) 0)) (Φ' := g.Φ) (w' := w) rfl rfl rfl (Nat.le_refl _) (fun _ _ _ => rfl)
    (by rw [hL]; exact .inr ⟨_, rfl, by simp [slen]⟩) (fun β hβ => by simp [GB.blk] at hβ) (fun _ _ _ h => h) (fun _ _ _ _ => rfl) (fun β off x h => hR.phi β off x h) trivial
  refine ⟨_, ⟨hup.1, hup.2, by simp [hset], fun i hi => ?_, fun i β hc => ?_⟩, ⟨hbox.mono hup.2.le (fun β hβ => ⟨rfl, fun _ => rfl⟩), fun β hβ => ?_⟩, fun β hβ => by rw [hL]; exact hβ, fun i hi => by simp [updL, hi]⟩
  · have : i ≠ b := by rintro rfl; rw [hL] at hi; cases hi
    simpa [updL, this] using hi
  · simp only [updL] at hc
    split at hc
    · simp [GB.blk] at hc
    · exact hc
  · have hβ' : (g.L b).blk = some β := by rw [hL]; exact hβ
    refine ⟨hlo β hβ', (hR.base b β hβ').2, fun i hc => ?_⟩
    simp only [updL] at hc
    split at hc
    · simp [GB.blk] at hc
    · next hne => exact hne (hR.inj i b β hc hβ')

theorem outC_sound {H H' : AHeap} {g : Ghost} {w : World} {B : Nat} {lo : Nat → Prop} {v v' : AV} {u : Value} (hR : Rel MC P B0 H g w) (hlo : ∀ i, B ≤ i → ∀ β, (g.L i).blk = some β → lo β) (hV : V g v u) (h : outC B H v = some (v', H')) :
    ∃ g' fs, Going MC P B0 H g w H' g' ∧ RC g' v' u fs ∧ FsOk MC P g' w lo fs ∧ ∀ e, FOk MC P g w lo e → ∀ f ∈ fs, Apart e f := by
  have thaw : frv H v = some (v', H') → ∃ g' fs, Going MC P B0 H g w H' g' ∧ RC g' v' u fs ∧ FsOk MC P g' w lo fs ∧ ∀ e, FOk MC P g w lo e → ∀ f ∈ fs, Apart e f := by
    intro h
    obtain ⟨g', q, hV'⟩ := frv_sound hR hV h
    exact ⟨g', [], q.going, .val _ _ hV', .nil, by simp⟩
  cases v with
  | asl b n =>
    simp only [outC] at h
    split at h
    · next k rows hw =>
      split at h
      · next hB =>
        split at h
        · next hn =>
          simp only [Option.some.injEq, Prod.mk.injEq] at h
          obtain ⟨rfl, rfl⟩ := h
          obtain ⟨v0, hL, hbox⟩ := hR.arrW hw
          have hg := harrW_get hw
          have hb := (List.getElem?_eq_some_iff.1 hg).1
          have hsl := arr_slen hbox
          have e0 := arr_alias hV hL (by rw [hsl]; exact Nat.eq_of_beq_eq_true hn)
          subst e0
          have hB' : B ≤ b := by simpa using hB
          obtain ⟨g', q1, q2, q3, _⟩ := hR.letgo hg hL (lo := lo) (hlo b hB')
          refine ⟨g', [(k, rows, u)], q1, .fresh k rows u ?_, ⟨fun e he => ?_, by simp⟩, ?_⟩
          · cases hV with
            | den _ _ hd => cases hd
            | asl _ _ _ _ _ _ _ h1 => exact h1
          · simp at he; subst he; exact q2
          · intro e he f hf β hβ hc
            simp at hf; subst hf
            exact (he.own β hβ).2.2 b (q3 β hc)
        · cases h
      · exact thaw h
    · exact thaw h
  | nils k =>
    simp only [outC, Option.some.injEq, Prod.mk.injEq] at h
    obtain ⟨rfl, rfl⟩ := h
    cases hV with
    | den _ _ hd =>
      cases hd
      exact ⟨g, [], .refl hR, .val _ _ (.den _ _ (.seq0 k none 0)), .nil, by simp⟩
  | _ =>
    simp only [outC, Option.some.injEq, Prod.mk.injEq] at h
    obtain ⟨rfl, rfl⟩ := h
    exact ⟨g, [], .refl hR, .val _ _ hV, .nil, by simp⟩

theorem FsOk.app {g : Ghost} {w : World} {lo : Nat → Prop} {fs fs' : List FE} (h : FsOk MC P g w lo fs) (k : FsOk MC P g w lo fs') (ha : ∀ e ∈ fs, ∀ f ∈ fs', Apart e f) : FsOk MC P g w lo (fs ++ fs') :=
  ⟨fun e he => (List.mem_append.1 he).elim (h.ok e) (k.ok e), List.pairwise_append.2 ⟨h.apart, k.apart, ha⟩⟩

theorem outCs_sound {w : World} {B : Nat} {lo : Nat → Prop} : ∀ {l l' : List AV} {H H' : AHeap} {g : Ghost} {us : List Value}, Rel MC P B0 H g w → (∀ i, B ≤ i → ∀ β, (g.L i).blk = some β → lo β) → us.length = l.length →
    (∀ (j : Nat) x, l[j]? = some x → V g x (us[j]?.getD undef)) → outCs B H l = some (l', H') →
    ∃ g' fs, Going MC P B0 H g w H' g' ∧ RCs g' l' us fs ∧ FsOk MC P g' w lo fs ∧ ∀ e, FOk MC P g w lo e → ∀ f ∈ fs, Apart e f
  | [], l', H, H', g, us, hR, hlo, hl, hV, h => by
    simp only [outCs, Option.some.injEq, Prod.mk.injEq] at h
    obtain ⟨rfl, rfl⟩ := h
    have : us = [] := List.length_eq_zero_iff.1 (by simpa using hl)
    subst this
    exact ⟨g, [], .refl hR, .nil, .nil, by simp⟩
  | v :: l, l', H, H', g, us, hR, hlo, hl, hV, h => by
    obtain ⟨u, us, rfl⟩ : ∃ u us', us = u :: us' := by cases us with | nil => simp at hl | cons u us => exact ⟨u, us, rfl⟩
    simp only [outCs] at h
    split at h
    · cases h
    · next v1 H1 e1 =>
      split at h
      · cases h
      · next l2 H2 e2 =>
        simp only [Option.some.injEq, Prod.mk.injEq] at h
        obtain ⟨rfl, rfl⟩ := h
        obtain ⟨g1, f1, q1, r1, k1, a1⟩ := outC_sound hR hlo (hV 0 v rfl) e1
        obtain ⟨g2, f2, q2, r2, k2, a2⟩ := outCs_sound q1.rel (q1.lo hlo) (us := us) (by simpa using hl) (fun j x hj => (hV (j + 1) x hj).mono q1.ext.le) e2
        refine ⟨g2, f1 ++ f2, q1.trans q2, .cons _ _ _ _ _ _ ?_ r2, (k1.ext q2.ext).app k2 (fun e he => a2 e (k1.ok e he)), ?_⟩
        · exact RC.mono q2.ext.le r1
        · intro e he f hf
          rcases List.mem_append.1 hf with hf | hf
          · exact a1 e he f hf
          · exact a2 e (he.ext q1.ext) f hf

theorem outV_sound {H H' : AHeap} {g : Ghost} {w : World} {B : Nat} {lo : Nat → Prop} {v v' : AV} {u : Value} (hR : Rel MC P B0 H g w) (hlo : ∀ i, B ≤ i → ∀ β, (g.L i).blk = some β → lo β) (hV : V g v u) (h : outV B H v = some (v', H')) :
    ∃ g' fs, Going MC P B0 H g w H' g' ∧ RV g' v' u fs ∧ FsOk MC P g' w lo fs ∧ ∀ e, FOk MC P g w lo e → ∀ f ∈ fs, Apart e f := by
  have one : (∀ cs, v ≠ .agg cs) → outC B H v = some (v', H') → (∃ g' fs, Going MC P B0 H g w H' g' ∧ RV g' v' u fs ∧ FsOk MC P g' w lo fs ∧ ∀ e, FOk MC P g w lo e → ∀ f ∈ fs, Apart e f) := by
    intro hv h
    obtain ⟨g', fs, q, r, k, a⟩ := outC_sound hR hlo hV h
    refine ⟨g', fs, q, .one _ _ _ ?_ r, k, a⟩
    intro cs hc; subst hc
    revert h
    cases v with
    | agg cs => exact absurd rfl (hv cs)
    | asl b n =>
      simp only [outC, frv]
      intro h
      repeat' split at h
      all_goals simp at h
    | nils k => simp [outC]
    | _ => simp [outC]
  cases v with
  | agg cs =>
    simp only [outV] at h
    cases hq : outCs B H cs with
    | none => simp [hq] at h
    | some r =>
      obtain ⟨cs', H1⟩ := r
      simp only [hq, Option.map_some, Option.some.injEq, Prod.mk.injEq] at h
      obtain ⟨rfl, rfl⟩ := h
      obtain ⟨vs, rfl, hl, hx⟩ := V_agg hV
      obtain ⟨g', fs, q, r, k, a⟩ := outCs_sound hR hlo (us := vs.toList) (by simpa using hl) (fun j x hj => by simpa using (hx j x hj).2.1) hq
      refine ⟨g', fs, q, .agg _ _ _ r ?_, k, a⟩
      intro x hx'
      obtain ⟨j, hj, rfl⟩ := List.mem_iff_getElem.1 hx'
      have hj' : j < cs.length := by simp at hj; omega
      have := (hx j _ (List.getElem?_eq_getElem hj')).2.2
      simp at hj
      simpa [hj] using this
  | _ => exact one (by simp) h

theorem outVs_sound {w : World} {B : Nat} {lo : Nat → Prop} : ∀ {l l' : List AV} {H H' : AHeap} {g : Ghost} {us : List Value}, Rel MC P B0 H g w → (∀ i, B ≤ i → ∀ β, (g.L i).blk = some β → lo β) → us.length = l.length →
    (∀ (j : Nat) x, l[j]? = some x → V g x (us[j]?.getD undef)) → outVs B H l = some (l', H') →
    ∃ g' fs, Going MC P B0 H g w H' g' ∧ RVs g' l' us fs ∧ FsOk MC P g' w lo fs ∧ ∀ e, FOk MC P g w lo e → ∀ f ∈ fs, Apart e f
  | [], l', H, H', g, us, hR, hlo, hl, hV, h => by
    simp only [outVs, Option.some.injEq, Prod.mk.injEq] at h
    obtain ⟨rfl, rfl⟩ := h
    have : us = [] := List.length_eq_zero_iff.1 (by simpa using hl)
    subst this
    exact ⟨g, [], .refl hR, .nil, .nil, by simp⟩
  | v :: l, l', H, H', g, us, hR, hlo, hl, hV, h => by
    obtain ⟨u, us, rfl⟩ : ∃ u us', us = u :: us' := by cases us with | nil => simp at hl | cons u us => exact ⟨u, us, rfl⟩
    simp only [outVs] at h
    split at h
    · cases h
    · next v1 H1 e1 =>
      split at h
      · cases h
      · next l2 H2 e2 =>
        simp only [Option.some.injEq, Prod.mk.injEq] at h
        obtain ⟨rfl, rfl⟩ := h
        obtain ⟨g1, f1, q1, r1, k1, a1⟩ := outV_sound hR hlo (hV 0 v rfl) e1
        obtain ⟨g2, f2, q2, r2, k2, a2⟩ := outVs_sound q1.rel (q1.lo hlo) (us := us) (by simpa using hl) (fun j x hj => (hV (j + 1) x hj).mono q1.ext.le) e2
        refine ⟨g2, f1 ++ f2, q1.trans q2, .cons _ _ _ _ _ _ ?_ r2, (k1.ext q2.ext).app k2 (fun e he => a2 e (k1.ok e he)), ?_⟩
        · exact RV.mono q2.ext.le r1
        · intro e he f hf
          rcases List.mem_append.1 hf with hf | hf
          · exact a1 e he f hf
          · exact a2 e (he.ext q1.ext) f hf

theorem outC_sc {c : Sc} {B : Nat} {H H' : AHeap} {v v' : AV} (h : ScOk c H) (hf : outC B H v = some (v', H')) : ScOk c H' := by
  unfold outC at hf
  repeat' split at hf
  all_goals first
    | (cases hf; done)
    | exact frv_sc h hf
    | (simp only [Option.some.injEq, Prod.mk.injEq] at hf; obtain ⟨_, rfl⟩ := hf; first | exact h | exact h.setTriv _ .dead (fun _ => trivial))
theorem outCs_sc {c : Sc} {B : Nat} : ∀ {l l' : List AV} {H H' : AHeap}, ScOk c H → outCs B H l = some (l', H') → ScOk c H'
  | [], l', H, H', h, hf => by simp only [outCs, Option.some.injEq, Prod.mk.injEq] at hf; exact hf.2 ▸ h
  | v :: l, l', H, H', h, hf => by
    simp only [outCs] at hf
    split at hf
    · cases hf
    · next v1 H1 e1 =>
      split at hf
      · cases hf
      · next l2 H2 e2 =>
        simp only [Option.some.injEq, Prod.mk.injEq] at hf
        exact hf.2 ▸ outCs_sc (outC_sc h e1) e2
theorem outV_sc {c : Sc} {B : Nat} {H H' : AHeap} {v v' : AV} (h : ScOk c H) (hf : outV B H v = some (v', H')) : ScOk c H' := by
  unfold outV at hf
  split at hf
  · next cs =>
    cases hl : outCs B H cs with
    | none => simp [hl] at hf
    | some r => simp only [hl, Option.map_some, Option.some.injEq, Prod.mk.injEq] at hf; exact hf.2 ▸ outCs_sc h (l' := r.1) (H' := r.2) hl
  · exact outC_sc h hf
theorem outVs_sc {c : Sc} {B : Nat} : ∀ {l l' : List AV} {H H' : AHeap}, ScOk c H → outVs B H l = some (l', H') → ScOk c H'
  | [], l', H, H', h, hf => by simp only [outVs, Option.some.injEq, Prod.mk.injEq] at hf; exact hf.2 ▸ h
  | v :: l, l', H, H', h, hf => by
    simp only [outVs] at hf
    split at hf
    · cases hf
    · next v1 H1 e1 =>
      split at hf
      · cases hf
      · next l2 H2 e2 =>
        simp only [Option.some.injEq, Prod.mk.injEq] at hf
        exact hf.2 ▸ outVs_sc (outV_sc h e1) e2

/-! ### results come in -/
theorem rankOf_mem {j r : Nat} : ∀ {own : List (Nat × Nat)}, rankOf j own = some r → r ∈ own.map (·.2)
  | [], h => by cases h
  | x :: l, h => by
    simp only [rankOf] at h
    cases hb : Nat.beq x.1 j with
    | true => simp [hb] at h; simp [h]
    | false => simp only [hb, cond_false] at h; exact List.mem_cons_of_mem _ (rankOf_mem h)
theorem rankOf_inj {j j' r : Nat} : ∀ {own : List (Nat × Nat)}, (own.map (·.2)).Nodup → rankOf j own = some r → rankOf j' own = some r → j = j'
  | [], _, h, _ => by cases h
  | x :: l, hn, h, h' => by
    simp only [List.map_cons, List.nodup_cons] at hn
    simp only [rankOf] at h h'
    cases hb : Nat.beq x.1 j <;> cases hb' : Nat.beq x.1 j' <;> simp only [hb, hb', cond_true, cond_false, Option.some.injEq] at h h'
    · exact rankOf_inj hn.2 h h'
    · exact absurd (h' ▸ rankOf_mem h) hn.1
    · exact absurd (h ▸ rankOf_mem h') hn.1
    · rw [← Nat.eq_of_beq_eq_true hb, ← Nat.eq_of_beq_eq_true hb']

/-- How memory stands as results come in: since H0, and since now. -/
structure Coming (MC : Nat → Code → ACode → Prop) (P : Program) (B0 : Nat) (H0 : AHeap) (g0 : Ghost) (w0 : World) (H : AHeap) (g : Ghost) (w : World) (H' : AHeap) (g' : Ghost) (X : List Nat) : Prop where
  rel : Rel MC P B0 H' g' w
  ext : Ext H0 g0 w0 H' g' w
  le : g.le g'
  len : H'.length = H.length
  same : ∀ i, i ∉ X → g'.L i = g.L i

/-- A box is born over a block that is nobody's. -/
theorem Rel.take_over {H0 H : AHeap} {g0 g : Ghost} {w0 w : World} (hE : Ext H0 g0 w0 H g w) (hR : Rel MC P B0 H g w) {i k : Nat} {rows : List (List AV)} {u : Value} (hi : i < H.length) (hn : g.L i = .none)
    (hf : FOk MC P g w (OkB B0 H0 g0 w0) (k, rows, u)) : Rel MC P B0 (H.set i (.arr k false rows)) ⟨updL g.L i (.arr k u), g.Φ⟩ w ∧ Ext H0 g0 w0 (H.set i (.arr k false rows)) ⟨updL g.L i (.arr k u), g.Φ⟩ w := by
  have hle : g.le ⟨updL g.L i (.arr k u), g.Φ⟩ := ⟨fun j => by
    by_cases e : j = i
    · subst e; rw [hn]; trivial
    · simp only [updL, if_neg e]; exact GB.le_refl _, fun _ _ _ h => h⟩
  have hn0 : g0.L i = .none := by
    have := hE.le.L i
    cases hg : g0.L i with
    | none => rfl
    | arr k v =>
      rw [hg, hn] at this
      rcases this with h | ⟨_, h, _⟩ <;> cases h
    | _ => rw [hg, hn] at this; cases this
  refine ⟨⟨hR.phi, ?_, ?_, ?_, ?_, hR.b0⟩, ⟨by simpa using hE.len, hE.os, hE.tape, hE.output, hE.size, hE.le.trans hle, ?_, ?_, ?_, ?_⟩⟩
  · intro j β hb
    by_cases e : j = i
    · subst e; simp only [updL, if_true] at hb
      have := hf.own β hb
      exact ⟨this.1.1, this.2.1⟩
    · simp only [updL, if_neg e] at hb; exact hR.base j β hb
  · intro j j' β hj hj'
    simp only [updL] at hj hj'
    split at hj <;> split at hj'
    · omega
    · exact absurd hj' ((hf.own β hj).2.2 _)
    · exact absurd hj ((hf.own β hj').2.2 _)
    · exact hR.inj j j' β hj hj'
  · intro j o ho
    rw [List.getElem?_set] at ho
    by_cases e : i = j
    · subst e
      rw [if_pos rfl, if_pos hi] at ho
      cases ho
      simp only [updL, if_true, AO.rd]
      exact hf.box.mono hle (fun β _ => ⟨rfl, fun _ => rfl⟩)
    · rw [if_neg e] at ho
      have hne : j ≠ i := fun h => e h.symm
      simp only [updL, if_neg hne]
      exact (hR.box j o ho).mono hle (fun β _ => ⟨rfl, fun _ => rfl⟩)
  · intro j hj
    have hne : j ≠ i := by have : H.length ≤ j := by simpa using hj
                           omega
    simp only [updL, if_neg hne]
    exact hR.nolive j (by simpa using hj)
  · intro j β hb
    simp only [updL] at hb
    split at hb
    · exact .inr (hf.own β hb).1.2
    · exact hE.blk j β hb
  · intro j o ho hw hnn
    simp only [updL]
    split
    · next e => subst e; exact absurd hn0 hnn
    · exact hE.keep j o ho hw hnn
  · intro j o' ho' hw'
    by_cases e : j = i
    · subst e; exact .inl hn0
    · rw [List.getElem?_set, if_neg (fun h => e h.symm)] at ho'
      exact hE.wit j o' ho' hw'
  · exact hE.frame

/-- A block that is nobody's never turns from now on. -/
theorem Rel.freeze {H0 H : AHeap} {g0 g : Ghost} {w0 w : World} (hE : Ext H0 g0 w0 H g w) (hR : Rel MC P B0 H g w) {β : Nat} (hβ : β < w.heap.size) (hlo : OkB B0 H0 g0 w0 β) (hown : ∀ i, (g.L i).blk ≠ some β) (hΦ : ∀ o, g.Φ β o = none)
    {cur : Array Value} {e : TypeId} (hg : w.heap[β]? = some (.cells cur e (0, 0))) :
    Rel MC P B0 H ⟨g.L, fun b o => if b = β then cur[o]? else g.Φ b o⟩ w ∧ Ext H0 g0 w0 H ⟨g.L, fun b o => if b = β then cur[o]? else g.Φ b o⟩ w := by
  have hle : g.le ⟨g.L, fun b o => if b = β then cur[o]? else g.Φ b o⟩ := ⟨fun _ => GB.le_refl _, fun b o v h => by
    simp only
    split
    · next e => subst e; rw [hΦ] at h; cases h
    · exact h⟩
  refine ⟨⟨?_, hR.base, hR.inj, ?_, hR.nolive, hR.b0⟩, ⟨hE.len, hE.os, hE.tape, hE.output, hE.size, hE.le.trans hle, hE.blk, hE.keep, hE.wit, ?_⟩⟩
  · intro b o v h
    simp only at h
    split at h
    · next e => subst e; simp [World.cell?, hg, h]
    · exact hR.phi b o v h
  · intro i o ho
    refine (hR.box i o ho).mono hle (fun b hb => ⟨rfl, fun o => ?_⟩)
    simp only
    rw [if_neg (by rintro rfl; exact hown i hb)]
  · intro b hb hn
    obtain ⟨h1, h2⟩ := hE.frame b hb hn
    refine ⟨h1, fun o => ?_⟩
    simp only
    rw [if_neg]
    · exact h2 o
    · rintro rfl
      rcases hlo.2 with h3 | ⟨j, oj, h3, h4, h5⟩
      · omega
      · exact hn j oj h3 h4 h5

theorem inC_sound {H0 H : AHeap} {g0 g : Ghost} {w0 w : World} {n0 j : Nat} {own : List (Nat × Nat)} {v : AV} {u : Value} {fs rest : List FE} (hE : Ext H0 g0 w0 H g w) (hR : Rel MC P B0 H g w)
    (hv : RC g v u fs) (hfs : FsOk MC P g w (OkB B0 H0 g0 w0) (fs ++ rest)) (hr : ∀ r, rankOf j own = some r → n0 + r < H.length ∧ g.L (n0 + r) = .none) :
    ∃ g', V g' (inC n0 H own j v).1 u ∧ Coming MC P B0 H0 g0 w0 H g w (inC n0 H own j v).2 g' ((rankOf j own).toList.map (n0 + ·)) ∧ FsOk MC P g' w (OkB B0 H0 g0 w0) rest := by
  cases hv with
  | val _ _ h =>
    have e : inC n0 H own j v = (v, H) := by
      cases v <;> first | rfl | (cases h with | den _ _ hd => cases hd)
    rw [e]
    exact ⟨g, h, ⟨hR, hE, Ghost.le_refl g, rfl, fun _ _ => rfl⟩, by simpa using hfs⟩
  | fresh k rows _ h1 =>
    have hf := hfs.ok (k, rows, u) (by simp)
    have hap := hfs.apart
    simp only [List.singleton_append, List.pairwise_cons] at hap
    simp only [inC]
    cases hrk : rankOf j own with
    | some r =>
      obtain ⟨hi, hn⟩ := hr r hrk
      obtain ⟨q1, q2⟩ := Rel.take_over hE hR hi hn hf
      have hle : g.le ⟨updL g.L (n0 + r) (.arr k u), g.Φ⟩ := ⟨fun i => by
        by_cases e : i = n0 + r
        · subst e; rw [hn]; trivial
        · simp only [updL, if_neg e]; exact GB.le_refl _, fun _ _ _ h => h⟩
      refine ⟨⟨updL g.L (n0 + r) (.arr k u), g.Φ⟩, ?_, ⟨q1, q2, hle, by simp [hset], fun i hi => ?_⟩, ⟨fun e he => ?_, hap.2⟩⟩
      · have hsl := arr_slen hf.box
        exact .asl _ _ k u _ (by simp [updL]) (by rw [hsl]; exact Nat.le_refl _) h1 (fun _ => rfl)
      · simp at hi; simp [updL, hi]
      · refine (hfs.ok e (by simp [he])).turn hle (Nat.le_refl _) (fun _ _ => ⟨rfl, fun _ => rfl⟩) (fun i β hβ hc => ?_)
        simp only [updL] at hc
        split at hc
        · exact hap.1 e he β hc hβ
        · exact ((hfs.ok e (by simp [he])).own β hβ).2.2 i hc
    | none =>
      obtain ⟨_, hk, hlen, h4⟩ := hf.box
      rcases h4 with ⟨hr0, hu0⟩ | ⟨β, cp, e, cur, hu0, h5, h6, h7, h8, h9, h10, h11⟩
      · simp only at hr0 hu0
        subst hr0; subst hu0
        exact ⟨g, .den _ _ (.seq0 k none 0), ⟨hR, hE, Ghost.le_refl g, rfl, fun _ _ => rfl⟩, ⟨fun e he => hfs.ok e (by simp [he]), hap.2⟩⟩
      · simp only at hu0 h5 h9 hlen
        subst hu0
        obtain ⟨o1, o2, o3⟩ := hf.own β rfl
        have hΦ := h10 rfl
        obtain ⟨q1, q2⟩ := Rel.freeze hE hR o2 o1 o3 hΦ h7
        have hle : g.le ⟨g.L, fun b o => if b = β then cur[o]? else g.Φ b o⟩ := ⟨fun _ => GB.le_refl _, fun b o v h => by
          simp only
          split
          · next e => subst e; rw [hΦ] at h; cases h
          · exact h⟩
        refine ⟨_, ?_, ⟨q1, q2, hle, rfl, fun _ _ => rfl⟩, ⟨fun e he => ?_, hap.2⟩⟩
        · refine .den _ _ (.seq k rows ⟨β, 0, none⟩ cp (fun i j => cur[i * k + j]?.getD undef) rfl h5 hlen (fun i r j x hi hj => ?_) (fun i r j x hi hj => ?_))
          · obtain ⟨x', hx', _⟩ := h9 i r j x hi hj
            simp [hx']
          · obtain ⟨x', hx', hd⟩ := h9 i r j x hi hj
            simp only [hx', Option.getD_some]
            exact hd.mono hle.Φ
        · have hfe := hfs.ok e (by simp [he])
          refine hfe.turn hle (Nat.le_refl _) (fun b hb => ⟨rfl, fun o => ?_⟩) (fun i b hb => (hfe.own b hb).2.2 i)
          simp only
          rw [if_neg]
          rintro rfl
          exact hap.1 e he b rfl hb

theorem inCs_sound {H0 : AHeap} {g0 : Ghost} {w0 w : World} {n0 : Nat} {own : List (Nat × Nat)} (hnd : (own.map (·.2)).Nodup) : ∀ {l : List AV} {us : List Value} {fs rest : List FE} {j : Nat} {H : AHeap} {g : Ghost}, Ext H0 g0 w0 H g w → Rel MC P B0 H g w →
    RCs g l us fs → FsOk MC P g w (OkB B0 H0 g0 w0) (fs ++ rest) → (∀ j' r, j ≤ j' → rankOf j' own = some r → n0 + r < H.length ∧ g.L (n0 + r) = .none) →
    ∃ g', (∀ (i : Nat) x, (inCs n0 H own j l).1[i]? = some x → V g' x (us[i]?.getD undef)) ∧ (inCs n0 H own j l).1.length = us.length ∧ Coming MC P B0 H0 g0 w0 H g w (inCs n0 H own j l).2 g' ((own.map (·.2)).map (n0 + ·)) ∧ FsOk MC P g' w (OkB B0 H0 g0 w0) rest
  | [], us, fs, rest, j, H, g, hE, hR, h, hfs, hr => by
    cases h
    exact ⟨g, by simp [inCs], rfl, ⟨hR, hE, Ghost.le_refl g, rfl, fun _ _ => rfl⟩, hfs⟩
  | v :: l, us, fs, rest, j, H, g, hE, hR, h, hfs, hr => by
    cases h with
    | cons _ u f _ us fs h k =>
    rw [List.append_assoc] at hfs
    obtain ⟨g1, v1, c1, f1⟩ := inC_sound (own := own) (j := j) (n0 := n0) hE hR h hfs (fun r hrk => hr j r (Nat.le_refl _) hrk)
    obtain ⟨g2, v2, l2, c2, f2⟩ := inCs_sound hnd (l := l) (j := j + 1) c1.ext c1.rel (k.mono c1.le) f1 (fun j' r hj hrk => by
      obtain ⟨q1, q2⟩ := hr j' r (by omega) hrk
      refine ⟨by rw [c1.len]; exact q1, ?_⟩
      rw [c1.same _ ?_]; exact q2
      intro hm
      simp only [List.mem_map, Option.mem_toList] at hm
      obtain ⟨r', hr', he⟩ := hm
      have : r' = r := by omega
      subst this
      have := rankOf_inj hnd hr' hrk
      omega)
    refine ⟨g2, ?_, by simp [inCs, l2], ⟨c2.rel, c2.ext, c1.le.trans c2.le, c2.len.trans c1.len, fun i hi => ?_⟩, f2⟩
    · intro i x hx
      simp only [inCs] at hx
      rcases i with _ | i
      · simp at hx; subst hx; exact v1.mono c2.le
      · simp at hx; exact v2 i x hx
    · rw [c2.same i hi, c1.same i ?_]
      intro hm
      simp only [List.mem_map, Option.mem_toList] at hm
      obtain ⟨r', hr', he⟩ := hm
      exact hi (by subst he; exact List.mem_map_of_mem (rankOf_mem hr'))

theorem inV_sound {H0 H : AHeap} {g0 g : Ghost} {w0 w : World} {n0 : Nat} {own : List (Nat × Nat)} (hnd : (own.map (·.2)).Nodup) {v : AV} {u : Value} {fs rest : List FE} (hE : Ext H0 g0 w0 H g w) (hR : Rel MC P B0 H g w)
    (hv : RV g v u fs) (hfs : FsOk MC P g w (OkB B0 H0 g0 w0) (fs ++ rest)) (hr : ∀ r ∈ own.map (·.2), n0 + r < H.length ∧ g.L (n0 + r) = .none) :
    ∃ g', V g' (inV n0 H own v).1 u ∧ Coming MC P B0 H0 g0 w0 H g w (inV n0 H own v).2 g' ((own.map (·.2)).map (n0 + ·)) ∧ FsOk MC P g' w (OkB B0 H0 g0 w0) rest := by
  cases hv with
  | agg cs vs _ h h1 =>
    obtain ⟨g', q1, q2, q3, q4⟩ := inCs_sound (n0 := n0) (j := 0) hnd hE hR h hfs (fun j' r _ hrk => hr r (rankOf_mem hrk))
    refine ⟨g', ?_, q3, q4⟩
    simp only [inV]
    refine .agg _ vs (by rw [q2]; simp) (fun j x hj => by simpa using q1 j x hj) (fun j x hj => ?_)
    have hj' : j < vs.size := by have := (List.getElem?_eq_some_iff.1 hj).1; rw [q2] at this; simpa using this
    simpa [hj'] using h1 vs[j] (by simp)
  | one _ _ _ hv h =>
    have e : inV n0 H own v = inC n0 H own 0 v := by cases v <;> first | rfl | exact absurd rfl (hv _)
    rw [e]
    obtain ⟨g', q1, q2, q3⟩ := inC_sound (own := own) (j := 0) (n0 := n0) hE hR h hfs (fun r hrk => hr r (rankOf_mem hrk))
    refine ⟨g', q1, ⟨q2.rel, q2.ext, q2.le, q2.len, fun i hi => q2.same i (fun hm => hi ?_)⟩, q3⟩
    simp only [List.mem_map, Option.mem_toList] at hm
    obtain ⟨r', hr', he⟩ := hm
    subst he; exact List.mem_map_of_mem (rankOf_mem hr')

theorem inVs_sound {H0 : AHeap} {g0 : Ghost} {w0 w : World} {n0 : Nat} : ∀ {l : List AV} {own : List (List (Nat × Nat))} {us : List Value} {fs rest : List FE} {H : AHeap} {g : Ghost}, (own.flatMap fun q => q.map (·.2)).Nodup → Ext H0 g0 w0 H g w → Rel MC P B0 H g w →
    RVs g l us fs → FsOk MC P g w (OkB B0 H0 g0 w0) (fs ++ rest) → (∀ r ∈ own.flatMap fun q => q.map (·.2), n0 + r < H.length ∧ g.L (n0 + r) = .none) →
    ∃ g', (∀ (i : Nat) x, (inVs n0 H l own).1[i]? = some x → V g' x (us[i]?.getD undef)) ∧ (inVs n0 H l own).1.length = us.length ∧ Coming MC P B0 H0 g0 w0 H g w (inVs n0 H l own).2 g' ((own.flatMap fun q => q.map (·.2)).map (n0 + ·)) ∧ FsOk MC P g' w (OkB B0 H0 g0 w0) rest
  | [], own, us, fs, rest, H, g, hnd, hE, hR, h, hfs, hr => by
    cases h
    exact ⟨g, by simp [inVs], rfl, ⟨hR, hE, Ghost.le_refl g, rfl, fun _ _ => rfl⟩, hfs⟩
  | v :: l, own, us, fs, rest, H, g, hnd, hE, hR, h, hfs, hr => by
    cases h with
    | cons _ u f _ us fs h k =>
    rw [List.append_assoc] at hfs
    have split : (own.flatMap fun q => q.map (·.2)) = (own.headD []).map (·.2) ++ own.tail.flatMap fun q => q.map (·.2) := by cases own <;> simp
    rw [split] at hnd hr ⊢
    obtain ⟨n1, n2, n3⟩ := List.nodup_append.1 hnd
    obtain ⟨g1, v1, c1, f1⟩ := inV_sound (n0 := n0) (own := own.headD []) n1 hE hR h hfs (fun r hrk => hr r (List.mem_append_left _ hrk))
    obtain ⟨g2, v2, l2, c2, f2⟩ := inVs_sound (l := l) (own := own.tail) n2 c1.ext c1.rel (k.mono c1.le) f1 (fun r hrk => by
      obtain ⟨q1, q2⟩ := hr r (List.mem_append_right _ hrk)
      refine ⟨by rw [c1.len]; exact q1, ?_⟩
      rw [c1.same _ ?_]; exact q2
      intro hm
      obtain ⟨r', hr', he⟩ := List.mem_map.1 hm
      have : r' = r := by omega
      subst this
      exact n3 r' hr' r' hrk rfl)
    refine ⟨g2, ?_, by simp only [inVs, List.length_cons, l2], ⟨c2.rel, c2.ext, c1.le.trans c2.le, c2.len.trans c1.len, fun i hi => ?_⟩, f2⟩
    · intro i x hx
      simp only [inVs] at hx
      rcases i with _ | i
      · simp only [List.getElem?_cons_zero, Option.some.injEq] at hx; subst hx; exact v1.mono c2.le
      · simp only [List.getElem?_cons_succ] at hx; exact v2 i x hx
    · simp only [List.map_append, List.mem_append, not_or] at hi
      rw [c2.same i hi.2, c1.same i hi.1]
end

theorem inC_sc {c : Sc} {n0 : Nat} (hn : c.cur ≤ n0) {H : AHeap} {own : List (Nat × Nat)} {j : Nat} {v : AV} (h : ScOk c H) : ScOk c (inC n0 H own j v).2 := by
  unfold inC
  repeat' split
  all_goals first | exact h | exact h.setNew _ (by omega) _
theorem inCs_sc {c : Sc} {n0 : Nat} (hn : c.cur ≤ n0) {own : List (Nat × Nat)} : ∀ {l : List AV} {j : Nat} {H : AHeap}, ScOk c H → ScOk c (inCs n0 H own j l).2
  | [], j, H, h => h
  | v :: l, j, H, h => by simp only [inCs]; exact inCs_sc hn (inC_sc hn h)
theorem inV_sc {c : Sc} {n0 : Nat} (hn : c.cur ≤ n0) {H : AHeap} {own : List (Nat × Nat)} {v : AV} (h : ScOk c H) : ScOk c (inV n0 H own v).2 := by
  unfold inV
  split
  · exact inCs_sc hn h
  · exact inC_sc hn h
theorem inVs_sc {c : Sc} {n0 : Nat} (hn : c.cur ≤ n0) : ∀ {l : List AV} {own : List (List (Nat × Nat))} {H : AHeap}, ScOk c H → ScOk c (inVs n0 H l own).2
  | [], own, H, h => h
  | v :: l, own, H, h => by simp only [inVs]; exact inVs_sc hn (inV_sc hn h)
end Am
