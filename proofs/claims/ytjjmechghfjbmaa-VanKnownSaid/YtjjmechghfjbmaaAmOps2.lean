/- Operations that leave memory as it is, continued. -/
import Derived.Test.YtjjmechghfjbmaaAmOps
set_option linter.unusedVariables false
set_option linter.unusedSimpArgs false
set_option linter.unnecessarySimpa false
namespace Am
open Go
section
variable {MC : Nat → Code → ACode → Prop} {P : Program} {B0 : Nat} {c : Sc} {n0 : Nat} {H H' : AHeap} {g : Ghost} {w : World} {s : Slots} {a : Act} {o : Oper} {v : AV}

theorem add_none (b off n : Nat) : (⟨b, off, none⟩ : Addr).add n = ⟨b, off + n, none⟩ := by
  unfold Addr.add; split
  · next h => subst h; rfl
  · rfl
theorem add_spot {ad : Addr} (h : ad.spot = none) (n : Nat) : ad.add n = ⟨ad.block, ad.off + n, none⟩ := by
  obtain ⟨b, off, s⟩ := ad; have : s = none := h; subst this; exact add_none b off n

theorem V_cptr_drop {cs : List AV} {ad : Addr} (h : V g (.cptr cs) (.pointer (some ad))) (n : Nat) : V g (.cptr (cs.drop n)) (.pointer (some (ad.add n))) := by
  cases h with
  | den _ _ hd => cases hd
  | cptr _ _ vs hs h1 h2 h3 =>
    rw [add_spot hs]
    refine .cptr _ _ (fun j => vs (n + j)) rfl (fun j x hj => ?_) (fun j x hj => ?_) (fun j x hj => ?_)
    all_goals rw [List.getElem?_drop] at hj
    · have := h1 _ _ hj
      simpa [Nat.add_assoc] using this
    · exact h2 _ _ hj
    · exact h3 _ _ hj

/-- A pointer moved on by n cells. -/
def AV.shift (n : Nat) : AV → Option AV
  | .ptr b o => some (.ptr b (o + n))
  | .eptr b m i o => some (.eptr b m i (o + n))
  | .cptr cs => some (.cptr (cs.drop n))
  | _ => none

theorem V_shift {p q : AV} {u : Value} (h : V g p u) {n : Nat} (hq : p.shift n = some q) : ∃ ad, u = .pointer (some ad) ∧ V g q (.pointer (some (ad.add n))) := by
  cases p <;> simp [AV.shift] at hq
  · subst hq
    cases h with
    | den _ _ hd => cases hd
    | ptr _ _ β e hL => exact ⟨_, rfl, by rw [add_none]; exact .ptr _ _ β e hL⟩
  · subst hq
    cases h with
    | den _ _ hd => cases hd
    | eptr _ _ _ _ k v p hL hle hp =>
      refine ⟨_, rfl, .eptr _ _ _ _ k v _ hL hle fun hn => ?_⟩
      obtain ⟨β, c, e1, e2⟩ := hp hn
      exact ⟨β, c, e1, by rw [e2, add_none]; simp [Nat.add_assoc]⟩
  · subst hq
    cases h with
    | den _ _ hd => cases hd
    | cptr _ ad vs hs h1 h2 h3 => exact ⟨_, rfl, V_cptr_drop (.cptr _ ad vs hs h1 h2 h3) n⟩

theorem fieldAt?_spec {t f : Nat} {fl : Field} (h : fieldAt? P t f = some fl) : ∃ fs, P.underlying t = some (.struct fs) ∧ fs[f]? = some fl := by
  unfold fieldAt? at h
  split at h
  · next fs hu => exact ⟨fs, hu, h⟩
  · cases h
theorem sliceOf_spec {t e : Nat} (h : sliceOf P t = some e) : P.underlying t = some (.slice e) := by
  unfold sliceOf at h
  split at h
  · next hu => cases h; exact hu
  · cases h

theorem p_fieldAddr {off : Nat} {y : Opd} (hm : matchOp P o.op (.fieldAddr off y) = true) (hS : SlotsOk g s a.tmps) (h : prim c n0 s H (.fieldAddr off y) = some (v, H')) : Still P a o w g v H H' := by
  simp only [matchOp] at hm
  split at hm
  · next t x f hop =>
    simp only [Bool.and_eq_true] at hm
    obtain ⟨h1, h2⟩ := hm
    split at h1
    · next fl hfl =>
      obtain ⟨fs, hu, hf⟩ := fieldAt?_spec hfl
      simp at h1
      obtain ⟨⟨rfl, hkn⟩, hpos⟩ := h1
      have fin : ∀ p q, ev s y = some p → p.shift fl.offset = some q → v = q → H' = H → Still P a o w g v H H' := by
        intro p q he hq hv hH
        obtain ⟨ad, e1, e2⟩ := V_shift (ev_V hS h2 he) hq
        subst hv
        refine ⟨hH, _, ?_, e2⟩
        have hne : ¬ P.cellsOf fl.type = 0 := by omega
        simp [execOp, hop, Instr.fieldAt, run_underlying hu, hf, e1, Instr.sureAddr, fieldPlace, run_sizeOf (known_info hkn), hne]
      simp only [prim] at h
      split at h <;> simp at h
      · next he => exact fin _ _ he rfl h.1.symm h.2.symm
      · next he => exact fin _ _ he rfl h.1.symm h.2.symm
      · next he => exact fin _ _ he rfl h.1.symm h.2.symm
    · cases h1
  · cases hm

theorem V_int {k : IntKind} {n : Int} {u : Value} (h : V g (.lit (.int k n)) u) : u = .int k n := V_lit h

theorem p_idxA {k n : Nat} {x y : Opd} (hm : matchOp P o.op (.idxA k n x y) = true) (hS : SlotsOk g s a.tmps) (h : prim c n0 s H (.idxA k n x y) = some (v, H')) : Still P a o w g v H H' := by
  simp only [matchOp] at hm
  split at hm
  · next t x' i' hop =>
    simp only [Bool.and_eq_true] at hm
    obtain ⟨⟨h1, h2⟩, h3⟩ := hm
    split at h1
    · next m e hu =>
      simp at h1
      obtain ⟨⟨⟨rfl, hk⟩, hkn⟩, hpos⟩ := h1
      have fin : ∀ p q kk i, ev s x = some p → ev s y = some (.lit (.int kk i)) → 0 ≤ i ∧ i < m → p.shift (i.toNat * k) = some q → v = q → H' = H → Still P a o w g v H H' := by
        intro p q kk i he hi hb hq hv hH
        obtain ⟨ad, e1, e2⟩ := V_shift (ev_V hS h2 he) hq
        have e3 := V_int (ev_V hS h3 hi)
        subst hv
        refine ⟨hH, _, ?_, e2⟩
        simp [execOp, hop, Instr.indexAt, run_underlying hu, e1, e3, asIntOf, Instr.sureAddr, hb, run_sizeOf (known_info hkn), hk]
      simp only [prim] at h
      split at h
      · next he hi => split at h <;> simp at h; exact fin _ _ _ _ he hi ‹_› rfl h.1.symm h.2.symm
      · next he hi => split at h <;> simp at h; exact fin _ _ _ _ he hi ‹_› rfl h.1.symm h.2.symm
      · next he hi => split at h <;> simp at h; exact fin _ _ _ _ he hi ‹_› rfl h.1.symm h.2.symm
      · cases h
    · cases h1
  · cases hm

theorem p_idxS {k : Nat} {x y : Opd} (hm : matchOp P o.op (.idxS k x y) = true) (hR : Rel MC P B0 H g w) (hS : SlotsOk g s a.tmps) (h : prim c n0 s H (.idxS k x y) = some (v, H')) : Still P a o w g v H H' := by
  simp only [matchOp] at hm
  split at hm
  · next t x' i' hop =>
    simp only [Bool.and_eq_true] at hm
    obtain ⟨⟨h1, h2⟩, h3⟩ := hm
    split at h1
    · next e hsl =>
      have hu := sliceOf_spec hsl
      simp at h1
      obtain ⟨⟨hk, hkn⟩, hpos⟩ := h1
      have fin : ∀ ad (len : Nat) cp kk i, a.eval x' = .slice (some ad) len cp → ev s y = some (.lit (.int kk i)) → 0 ≤ i → i < len → V g v (.pointer (some (ad.add (i.toNat * k)))) → H' = H → Still P a o w g v H H' := by
        intro ad len cp kk i he hi hb1 hb2 hV hH
        have e3 := V_int (ev_V hS h3 hi)
        refine ⟨hH, _, ?_, hV⟩
        simp [execOp, hop, Instr.indexAt, run_underlying hu, he, e3, asIntOf, hb1, hb2, run_sizeOf (known_info hkn), hk]
      simp only [prim] at h
      split at h
      · next kq rows kk i he hi =>
        split at h
        · next h0 =>
          obtain ⟨h0, rfl⟩ := h0
          cases hr : rows[i.toNat]? with
          | none => simp [hr] at h
          | some r =>
            simp [hr] at h
            have hV := ev_V hS h2 he
            generalize hev : a.eval x' = u at hV
            cases hV with
            | den _ _ hd =>
              cases hd with
              | seq0 => simp at hr
              | seq _ _ ad cp vs hs hcap hlen q1 q2 =>
                have hlt := (List.getElem?_eq_some_iff.1 hr).1
                refine fin _ _ _ _ _ hev hi h0 (by omega) ?_ h.2.symm
                rw [← h.1, add_spot hs]
                refine .cptr _ _ (fun j => vs i.toNat j) rfl (fun j x hj => ?_) (fun j x hj => .den _ _ (q2 _ _ _ _ hr hj)) (fun j x hj => (q2 _ _ _ _ hr hj).one)
                have := q1 _ _ _ _ hr hj
                simpa [Nat.add_assoc] using this
        · cases h
      · next kq rows kk i he hi =>
        split at h
        · next h0 =>
          obtain ⟨h0, rfl⟩ := h0
          cases hr : rows[i.toNat]? with
          | none => simp [hr] at h
          | some r =>
            simp [hr] at h
            have hV := ev_V hS h2 he
            generalize hev : a.eval x' = u at hV
            cases hV with
            | den _ _ hd => cases hd
            | xseq _ _ ad cp vs hs hcap hlen q1 q2 q3 =>
              have hlt := (List.getElem?_eq_some_iff.1 hr).1
              refine fin _ _ _ _ _ hev hi h0 (by omega) ?_ h.2.symm
              rw [← h.1, add_spot hs]
              refine .cptr _ _ (fun j => vs i.toNat j) rfl (fun j x hj => ?_) (fun j x hj => q2 _ _ _ _ hr hj) (fun j x hj => q3 _ _ _ _ hr hj)
              have := q1 _ _ _ _ hr hj
              simpa [Nat.add_assoc] using this
        · cases h
      · next b n kk i he hi =>
        split at h
        · next k' pb rows hc =>
          split at h
          · next h0 =>
            obtain ⟨h0, h1', rfl, hn⟩ := h0
            simp at h
            obtain ⟨v0, hL, _, hk0, hlen, hv0⟩ := hR.arr hc
            have hV := ev_V hS h2 he
            generalize hev : a.eval x' = u at hV
            cases hV with
            | den _ _ hd => cases hd
            | asl _ _ k2 v1 _ hL' hle hone hnv =>
              rw [hL] at hL'; cases hL'
              rcases hv0 with ⟨e0, _⟩ | ⟨β, cp, e', cur, hv, _⟩
              · subst e0; simp at hn; omega
              · subst hv
                have e1 := hnv (by simpa [slen] using hn)
                subst e1
                refine fin _ _ _ _ _ hev hi h0 (by omega) ?_ h.2.symm
                rw [← h.1, add_none]
                exact .eptr _ _ _ _ _ _ _ hL (by simp [slen, hn]) (fun _ => ⟨β, cp, by rw [hn], by simp⟩)
          · cases h
        · cases h
      · cases h
    · cases h1
  · cases hm

end
end Am
