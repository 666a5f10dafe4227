/- Stores, slices that are made, cut, appended to, copied. -/
import Derived.Test.YtjjmechghfjbmaaAmMem4
set_option linter.unusedVariables false
set_option linter.unusedSimpArgs false
set_option linter.unnecessarySimpa false
namespace Am
open Go
section
variable {MC : Nat → Code → ACode → Prop} {P : Program} {B0 : Nat} {c : Sc} {n0 : Nat} {H H' : AHeap} {g : Ghost} {w : World} {s : Slots} {a : Act} {o : Oper} {v : AV}

theorem arr_alias {b n k : Nat} {v0 u : Value} (hV : V g (.asl b n) u) (hL : g.L b = .arr k v0) (hn : slen v0 = n) : u = v0 := by
  cases hV with
  | den _ _ hd => cases hd
  | asl _ _ k2 v1 _ hL' hle hone hnv => rw [hL] at hL'; cases hL'; exact hnv hn

theorem arr_slen {k : Nat} {pb : Bool} {rows : List (List AV)} {v0 : Value} (h : BoxOk MC P g w (.arr k pb rows) (.arr k v0)) : slen v0 = rows.length := by
  obtain ⟨_, _, _, h0⟩ := h
  rcases h0 with ⟨rfl, rfl⟩ | ⟨β, cp, e, cur, rfl, _⟩ <;> rfl

theorem Rel.arrW (hR : Rel MC P B0 H g w) {b k : Nat} {p : Bool} {rows : List (List AV)} (h : harrW H b = some (k, p, rows)) : ∃ v, g.L b = .arr k v ∧ BoxOk MC P g w (.arr k p rows) (.arr k v) := by
  have hb := harrW_get h
  have := hR.box b _ hb
  simp only [AO.rd] at this
  cases hL : g.L b <;> rw [hL] at this <;> try exact this.elim
  obtain ⟨rfl, h3⟩ := this
  exact ⟨_, rfl, rfl, h3⟩

/-- The array after a store of cells into one row. -/
theorem rows_splice {k : Nat} {rows : List (List AV)} {cur : Array Value} {Φ : Nat → Nat → Option Value} (hlen : ∀ r ∈ rows, r.length = k) (hsz : rows.length * k ≤ cur.size)
    (h9 : ∀ (i : Nat) (r : List AV) (j : Nat) (x : AV), rows[i]? = some r → r[j]? = some x → ∃ u, cur[i * k + j]? = some u ∧ Den Φ x u)
    {i off : Nat} {r : List AV} (hi : rows[i]? = some r) {cs : List AV} {ns : List Value} (hl : ns.length = cs.length) (hle : off + cs.length ≤ r.length) (hN : ∀ (j : Nat) (x : AV), cs[j]? = some x → ∃ u, ns[j]? = some u ∧ Den Φ x u) :
    (∀ r' ∈ rows.set i (splice r off cs), r'.length = k) ∧
    ∀ (i' : Nat) (r' : List AV) (j : Nat) (x : AV), (rows.set i (splice r off cs))[i']? = some r' → r'[j]? = some x →
      ∃ u, ((cur.toList.take (i * k + off) ++ ns ++ cur.toList.drop (i * k + off + ns.length)).toArray)[i' * k + j]? = some u ∧ Den Φ x u := by
  have hir := (List.getElem?_eq_some_iff.1 hi).1
  have hrk := hlen r (List.mem_of_getElem? hi)
  have hb := mul_lt_of (k := k) hir
  have get : ∀ q, ((cur.toList.take (i * k + off) ++ ns ++ cur.toList.drop (i * k + off + ns.length)).toArray)[q]? = if q < i * k + off then cur[q]? else if q < i * k + off + cs.length then ns[q - (i * k + off)]? else cur[q]? := by
    intro q
    have hlt : (cur.toList.take (i * k + off)).length = i * k + off := by simp; omega
    simp only [List.getElem?_toArray, List.append_assoc]
    rw [List.getElem?_append, hlt]
    split
    · next h1 => rw [List.getElem?_take_of_lt h1]; simp
    · next h1 =>
      rw [List.getElem?_append, hl]
      split
      · next h2 => rw [if_pos (by omega)]
      · next h2 =>
        rw [if_neg (by omega), List.getElem?_drop]
        simp
        congr 1; omega
  refine ⟨fun r' hr' => ?_, fun i' r' j x hi' hj => ?_⟩
  · rcases List.mem_or_eq_of_mem_set hr' with h3 | h3
    · exact hlen r' h3
    · rw [h3, splice_len _ _ _ hle]; exact hrk
  · rw [get]
    rw [List.getElem?_set] at hi'
    by_cases e : i = i'
    · subst e
      rw [if_pos rfl, if_pos hir] at hi'
      cases hi'
      rw [splice_get _ _ _ hle] at hj
      split at hj
      · next h1 => rw [if_pos (by omega)]; exact h9 i r j x hi hj
      · next h1 =>
        rw [if_neg (by omega)]
        split at hj
        · next h2 => rw [if_pos (by omega), show i * k + j - (i * k + off) = j - off by omega]; exact hN _ x hj
        · next h2 => rw [if_neg (by omega)]; exact h9 i r j x hi hj
    · rw [if_neg e] at hi'
      have hjk : j < k := by have h1 := (List.getElem?_eq_some_iff.1 hj).1; have h2 := hlen r' (List.mem_of_getElem? hi'); omega
      have hold := h9 i' r' j x hi' hj
      by_cases h4 : i' * k + j < i * k + off
      · rw [if_pos h4]; exact hold
      · rw [if_neg h4, if_neg]
        · exact hold
        · intro h5
          have := divide (k := k) hjk (show i' * k + j - i * k < k by omega) (show i' * k + j = i * k + (i' * k + j - i * k) by omega)
          omega

theorem m_store {k : Nat} {x y : Opd} (hm : matchOp P o.op (.store k x y) = true) (hR : Rel MC P B0 H g w) (hS : SlotsOk g s a.tmps) (h : prim c n0 s H (.store k x y) = some (v, H')) : Does MC P B0 a o [] H g w v H' := by
  simp only [matchOp] at hm
  split at hm
  · next t x' y' hop =>
    simp only [Bool.and_eq_true] at hm
    obtain ⟨⟨⟨⟨h1, h2⟩, h3⟩, h4⟩, h5⟩ := hm
    have hk : P.cellsOf t = k := by simpa using h2
    have hpos : 0 < k := by simpa using h3
    simp only [prim] at h
    split at h
    · next b off p hp hq =>
      split at h
      · next cs hc =>
        split at h
        · next hg =>
          simp only [Bool.and_eq_true] at hg
          obtain ⟨⟨g1, g2⟩, g3⟩ := hg
          have g1' : p.cellsOf.length = k := Nat.eq_of_beq_eq_true g1
          have g2' : off + k ≤ cs.length := Nat.le_of_ble_eq_true g2
          simp at h; obtain ⟨rfl, rfl⟩ := h
          have hne : p.cellsOf ≠ [] := by intro e; rw [e] at g1'; simp at g1'; omega
          have hN := cellsV (ev_V hS h5 hq) hne
          have hV := ev_V hS h4 hp
          generalize hev : a.eval x' = u at hV
          cases hV with
          | den _ _ hd => cases hd
          | ptr _ _ β e hL =>
            have hbox := hR.box b _ (hcellsW_get hc)
            simp only [AO.rd] at hbox
            rw [hL] at hbox
            obtain ⟨cur, c1, c2, c3, c4⟩ := hbox
            have hC : CellsV g cs cur := ⟨c2, c3⟩
            have hone : ∀ x ∈ (a.eval y').cells.toList, x.oneCell' = true := by
              intro z hz
              obtain ⟨j, hj⟩ := List.getElem?_of_mem hz
              have hjl : j < p.cellsOf.length := by have := (List.getElem?_eq_some_iff.1 hj).1; have := hN.1; simp at *; omega
              obtain ⟨u, e1, _, e3⟩ := hN.2 j p.cellsOf[j] (by simp [hjl])
              simp [e1] at hj
              subst hj; exact e3
            have hst := run_storeVar (w := w) h1 hk c1 (u := a.eval y') (off := off) (by rw [hN.1, g1']) hone (by omega)
            have hW := hR.write_cells hc hL (spliceV hC hN (off := off) (by omega))
            refine ⟨undef, _, g, .inr ⟨?_, rfl⟩, V_skip g, hW.1, hW.2, by simp [hset], fun i _ h => h⟩
            simp [execOp, hop, Instr.storeAt, Instr.sureAddr, hev, hst]
        · cases h
      · cases h
    · next b n i off p hp hq =>
      split at h
      · cases h
      · next cs H1 hf =>
        split at h
        · next kk rows hc =>
          split at h
          · next r hr =>
            split at h
            · next hg =>
              simp only [Bool.and_eq_true] at hg
              obtain ⟨⟨⟨g1, g2⟩, g3⟩, g4⟩ := hg
              have g1' : rows.length = n := Nat.eq_of_beq_eq_true g1
              have g2' : cs.length = k := Nat.eq_of_beq_eq_true g2
              have g3' : off + k ≤ r.length := Nat.le_of_ble_eq_true g3
              simp at h; obtain ⟨rfl, rfl⟩ := h
              have hVp := ev_V hS h5 hq
              have hne : p.cellsOf ≠ [] := by
                intro e; rw [e] at hf; simp [frvL] at hf; rw [hf.1] at g2'; simp at g2'; omega
              have hN := cellsV hVp hne
              obtain ⟨g1_, f, q1, q2⟩ := frvL_sound hR (us := (a.eval y').cells.toList) (by simpa using hN.1) (fun j x hj => by obtain ⟨u, e1, e2, _⟩ := hN.2 j x hj; simpa [e1] using e2) hf
              have hV := (ev_V hS h4 hp).mono f.ext.le
              obtain ⟨v0, hL, hbox⟩ := f.rel.arrW hc
              have hsl := arr_slen hbox
              obtain ⟨_, hk0, hlen, h0⟩ := hbox
              generalize hev : a.eval x' = u at hV
              cases hV with
              | den _ _ hd => cases hd
              | eptr _ _ _ _ k' v' p' hL' hle hpp =>
                rw [hL] at hL'; cases hL'
                obtain ⟨β', c', e1, e2⟩ := hpp (by omega)
                rcases h0 with ⟨rfl, rfl⟩ | ⟨β, cp, e, cur, rfl, a5, a6, a7, a8, a9, a10, a11⟩
                · simp at hr
                · cases e1
                  subst e2
                  have hsz : rows.length * kk ≤ cur.size := by rw [a8]; exact Nat.mul_le_mul_right _ a5
                  have hrk := hlen r (List.mem_of_getElem? hr)
                  have hir := (List.getElem?_eq_some_iff.1 hr).1
                  have hmul := mul_lt_of (k := kk) hir
                  have hNs : (a.eval y').cells.size = k := by rw [hN.1, ← q1]; omega
                  have hone : ∀ x ∈ (a.eval y').cells.toList, x.oneCell' = true := by
                    intro z hz
                    obtain ⟨j, hj⟩ := List.getElem?_of_mem hz
                    have hjl : j < p.cellsOf.length := by have := (List.getElem?_eq_some_iff.1 hj).1; have := hN.1; simp at *; omega
                    obtain ⟨u, e1, _, e3⟩ := hN.2 j p.cellsOf[j] (by simp [hjl])
                    simp [e1] at hj
                    subst hj; exact e3
                  have hst := run_storeVar (w := w) h1 hk a7 (u := a.eval y') (off := i * kk + off) hNs hone (by omega)
                  obtain ⟨r1, r2⟩ := rows_splice hlen hsz a9 hr (cs := cs) (ns := (a.eval y').cells.toList) (off := off) (by simp; omega) (by omega) (fun j x hj => by
                    have hz := q2 j x hj
                    have hjl : j < (a.eval y').cells.size := by have := (List.getElem?_eq_some_iff.1 hj).1; omega
                    refine ⟨(a.eval y').cells[j], by simp [hjl], ?_⟩
                    have hx := List.all_eq_true.1 g4 x (List.mem_of_getElem? hj)
                    simp [hjl] at hz
                    exact frz_den hx hz)
                  have eL : updL g1_.L b (g1_.L b) = g1_.L := by funext j; simp only [updL]; split; (next e => rw [e]); rfl
                  have hW := f.rel.write (b := b) ⟨_, harrW_get hc, rfl⟩ (by rw [hL]; rfl) a7 (cur.toList.take (i * kk + off) ++ (a.eval y').cells.toList ++ cur.toList.drop (i * kk + off + (a.eval y').cells.toList.length)).toArray
                    (o' := .arr kk false (rows.set i (splice r off cs))) (gb' := g1_.L b) (GB.le_refl _) (by rw [hL]; rfl) (fun off hs => by rw [a10 rfl off] at hs; cases hs)
                    (Φ' := g1_.Φ) (fun _ _ _ => rfl) (fun _ _ h => h) (fun off u h => by rw [a10 rfl off] at h; cases h) (by
                      rw [hL]
                      refine ⟨rfl, hk0, r1, .inr ⟨_, c', e, _, by simp, by simpa using a5, a6, setRow_heap w _ cur _ e (0, 0) a7, ?_, r2, fun _ off => a10 rfl off, by simp⟩⟩
                      simp; omega)
                  rw [eL] at hW
                  refine ⟨undef, _, g1_, .inr ⟨?_, rfl⟩, V_skip _, hW.1, f.ext.trans hW.2, by simp [hset, f.len], fun i _ h => by rw [f.L]; exact h⟩
                  simp [execOp, hop, Instr.storeAt, Instr.sureAddr, hev, hst]
            · cases h
          · cases h
        · cases h
    · cases h
  · cases hm
end
end Am
