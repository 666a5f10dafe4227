/- Slices that are made, cut, appended to, copied; maps that are written; strings that are gone through. -/
import Derived.Test.YtjjmechghfjbmaaAmMem5
set_option linter.unusedVariables false
set_option linter.unusedSimpArgs false
set_option linter.unnecessarySimpa false
namespace Am
open Go
section
variable {MC : Nat → Code → ACode → Prop} {P : Program} {B0 : Nat} {c : Sc} {n0 : Nat} {H H' : AHeap} {g : Ghost} {w : World} {s : Slots} {a : Act} {o : Oper} {v : AV}

/-- The cells of a slice that is read (its first q elements). -/
theorem readRows (hR : Rel MC P B0 H g w) {x : AV} {u : Value} (hV : V g x u) {rows : List (List AV)} {k : Nat} (hr : rowsOf H x = some rows) (hk : kOf H x = some k) (hfr : frzR rows = true) (hpos : 0 < k) :
    ∃ ad cp, u = .slice ad rows.length cp ∧ ∀ q, q ≤ rows.length → ∃ news : Array Value, (Builtin.firstCells k q u).run P w = .ok news w ∧ news.size = q * k ∧ (∀ x ∈ news.toList, x.oneCell' = true) ∧ (∀ r ∈ rows, r.length = k) ∧
      ∀ (i : Nat) (r : List AV) (j : Nat) (x : AV), i < q → rows[i]? = some r → r[j]? = some x → ∃ z, news[i * k + j]? = some z ∧ Den g.Φ x z := by
  have empty : ∀ ad cp, u = .slice ad 0 cp → rows = [] → ∃ ad cp, u = .slice ad rows.length cp ∧ ∀ q, q ≤ rows.length → ∃ news : Array Value, (Builtin.firstCells k q u).run P w = .ok news w ∧ news.size = q * k ∧ (∀ x ∈ news.toList, x.oneCell' = true) ∧ (∀ r ∈ rows, r.length = k) ∧
      ∀ (i : Nat) (r : List AV) (j : Nat) (x : AV), i < q → rows[i]? = some r → r[j]? = some x → ∃ z, news[i * k + j]? = some z ∧ Den g.Φ x z := by
    intro ad cp hu hrw
    subst hrw
    refine ⟨ad, cp, by simpa using hu, fun q hq => ?_⟩
    have : q = 0 := by simpa using hq
    subst this
    refine ⟨#[], ?_, by simp, by simp, by simp, by simp⟩
    rw [hu]
    cases ad <;> simp [Builtin.firstCells, loadCells, loadCellsFrom]
  -- cells known one by one
  have general : ∀ (ad : Addr) (cp : Nat) (vs : Nat → Value), u = .slice (some ad) rows.length cp → ad.spot = none → (∀ r ∈ rows, r.length = k) →
      (∀ i r j x, rows[i]? = some r → r[j]? = some x → w.cell? ⟨ad.block, ad.off + (i * k + j), none⟩ = some (vs (i * k + j)) ∧ Den g.Φ x (vs (i * k + j))) →
      ∃ ad cp, u = .slice ad rows.length cp ∧ ∀ q, q ≤ rows.length → ∃ news : Array Value, (Builtin.firstCells k q u).run P w = .ok news w ∧ news.size = q * k ∧ (∀ x ∈ news.toList, x.oneCell' = true) ∧ (∀ r ∈ rows, r.length = k) ∧
      ∀ (i : Nat) (r : List AV) (j : Nat) (x : AV), i < q → rows[i]? = some r → r[j]? = some x → ∃ z, news[i * k + j]? = some z ∧ Den g.Φ x z := by
    intro ad cp vs hu hs hlen hc
    refine ⟨some ad, cp, hu, fun q hq => ?_⟩
    have cell : ∀ m, m < q * k → ∃ i r j x, m = i * k + j ∧ i < q ∧ rows[i]? = some r ∧ r[j]? = some x := by
      intro m hm
      have hi : m / k < q := Nat.div_lt_of_lt_mul (by rwa [Nat.mul_comm] at hm)
      have hj : m % k < k := Nat.mod_lt _ hpos
      have hil : m / k < rows.length := by omega
      have hrl := hlen rows[m / k] (List.getElem_mem hil)
      refine ⟨m / k, rows[m / k], m % k, (rows[m / k])[m % k]'(by omega), ?_, hi, by simp [hil], by simp⟩
      have := Nat.div_add_mod m k
      rw [Nat.mul_comm] at this; omega
    refine ⟨((List.range (q * k)).map vs).toArray, ?_, by simp, ?_, hlen, fun i r j x hi hr hj => ?_⟩
    · rw [hu]
      simp only [Builtin.firstCells]
      rw [run_loadCells w ad (q * k) vs (fun m hm => by
        obtain ⟨i, r, j, x, e, _, h1, h2⟩ := cell m hm
        rw [add_spot hs, e]
        exact (hc i r j x h1 h2).1)]
    · intro x hx
      simp at hx
      obtain ⟨m, hm, rfl⟩ := hx
      obtain ⟨i, r, j, y, e, _, h1, h2⟩ := cell m hm
      rw [e]; exact (hc i r j y h1 h2).2.one
    · have hjk : j < k := by have h1 := (List.getElem?_eq_some_iff.1 hj).1; have h2 := hlen r (List.mem_of_getElem? hr); omega
      have := mul_lt_of (k := k) hi
      have hlt : i * k + j < q * k := by omega
      exact ⟨vs (i * k + j), by simp [hlt], (hc i r j x hr hj).2⟩
  cases x <;> simp only [rowsOf] at hr <;> try (simp at hr; done)
  · simp at hr
    subst hr
    cases hV with
    | den _ _ hd => cases hd with | nils => exact empty _ _ rfl rfl
  · rename_i k' rows'
    simp at hr; subst hr
    simp [kOf] at hk; subst hk
    cases hV with
    | den _ _ hd =>
      cases hd with
      | seq0 => exact empty _ _ rfl rfl
      | seq _ _ ad cp vs hs hcap hlen h1 h2 =>
        refine general ad cp (fun m => vs (m / k') (m % k')) rfl hs hlen (fun i r j x hi hj => ?_)
        have hjk : j < k' := by have q1 := (List.getElem?_eq_some_iff.1 hj).1; have q2 := hlen r (List.mem_of_getElem? hi); omega
        have e1 : (i * k' + j) / k' = i := by rw [Nat.mul_comm, Nat.mul_add_div hpos, Nat.div_eq_of_lt hjk]; omega
        have e2 : (i * k' + j) % k' = j := by rw [Nat.add_comm, Nat.add_mul_mod_self_right, Nat.mod_eq_of_lt hjk]
        simp only [e1, e2]
        exact ⟨hR.phi _ _ _ (h1 i r j x hi hj), h2 i r j x hi hj⟩
  · rename_i b n
    split at hr
    · next k2 pb rows2 hc =>
      split at hr
      · next hn =>
        simp at hr; subst hr
        simp [kOf, hc] at hk; subst hk
        obtain ⟨v0, hL, hbox⟩ := hR.arr hc
        have hu := arr_alias hV hL (by rw [arr_slen hbox]; exact Nat.eq_of_beq_eq_true hn)
        subst hu
        obtain ⟨_, hk0, hlen, h0⟩ := hbox
        rcases h0 with ⟨rfl, rfl⟩ | ⟨β, cp, e, cur, rfl, a5, a6, a7, a8, a9, a10, a11⟩
        · exact empty _ _ rfl rfl
        · refine general ⟨β, 0, none⟩ cp (fun m => (cur[m]?).getD undef) rfl rfl hlen (fun i r j x hi hj => ?_)
          obtain ⟨z, hz, hd⟩ := a9 i r j x hi hj
          simp only [hz, Option.getD_some, Nat.zero_add]
          exact ⟨by simpa [World.cell?, a7] using hz, hd⟩
      · cases hr
    · cases hr
  · rename_i b off k' n
    split at hr
    · next cs hc =>
      split at hr
      · next hble =>
        have hle : off + n * k' ≤ cs.length := Nat.le_of_ble_eq_true hble
        simp at hr
        simp [kOf] at hk; subst hk
        obtain ⟨β, e, hL, cur, c1, c2, c3, c4⟩ := hR.cells hc
        cases hV with
        | den _ _ hd => cases hd
        | csl _ _ _ _ β' e' hL' =>
          rw [hL] at hL'; cases hL'
          have hrl : rows.length = n := by rw [← hr]; simp
          have hget : ∀ i r, rows[i]? = some r → i < n ∧ r = (cs.drop (off + i * k')).take k' := by
            intro i r hi
            rw [← hr] at hi
            have hin : i < n := by have := (List.getElem?_eq_some_iff.1 hi).1; simpa using this
            simp [hin] at hi
            exact ⟨hin, hi.symm⟩
          have hlen : ∀ r ∈ rows, r.length = k' := by
            intro r hr'
            obtain ⟨i, hi⟩ := List.getElem?_of_mem hr'
            obtain ⟨hin, rfl⟩ := hget i r hi
            have := mul_lt_of (k := k') hin
            simp; omega
          refine general ⟨β, off, none⟩ n (fun m => (cur[off + m]?).getD undef) (by rw [hrl]) rfl hlen (fun i r j x hi hj => ?_)
          obtain ⟨hin, rfl⟩ := hget i r hi
          have hjk : j < k' := by have q1 := (List.getElem?_eq_some_iff.1 hj).1; simp at q1; omega
          have hx := frzR_get hfr hi hj
          rw [List.getElem?_take_of_lt hjk, List.getElem?_drop] at hj
          obtain ⟨z, hz, hV', _⟩ := c3 _ x hj
          have e1 : off + (i * k' + j) = off + i * k' + j := by omega
          simp only [e1, hz, Option.getD_some]
          exact ⟨by simpa [World.cell?, c1] using hz, frz_den hx hV'⟩
      · cases hr
    · cases hr

theorem matchV_frz {x : AV} {u : Value} (h : matchV x u = true) (ho : u.oneCell' = true) : x.frz = true := by
  cases x <;> first | rfl | skip
  all_goals simp only [matchV] at h
  all_goals first | (cases h; done) | skip
  all_goals split at h <;> first | (cases ho; done) | cases h

theorem matchVs_frz : ∀ {l : List AV} {vs : List Value}, matchVs l vs = true → vs.all Value.oneCell' = true → l.all AV.frz = true
  | [], _, _, _ => rfl
  | x :: l, [], h, _ => by simp [matchVs] at h
  | x :: l, v :: vs, h, ho => by
    simp [matchVs] at h
    simp at ho
    simp only [List.all_cons, Bool.and_eq_true]
    exact ⟨matchV_frz h.1 ho.1, matchVs_frz h.2 (by simpa using ho.2)⟩

theorem zeroIs_frz {P : Program} {t : TypeId} {zs : List AV} (h : zeroIs P t zs = true) : zs.all AV.frz = true := by
  unfold zeroIs at h
  split at h
  · simp only [Bool.and_eq_true] at h
    exact matchVs_frz h.1.1 h.2
  · cases h

theorem m_mkslice {k by_ : Nat} {z : List AV} {l cp : Opd} {r : Nat} (hm : matchOp P o.op (.mkslice k by_ z l cp r) = true) (hR : Rel MC P B0 H g w) (hS : SlotsOk g s a.tmps) (hF : Free H g n0 [r])
    (h : prim c n0 s H (.mkslice k by_ z l cp r) = some (v, H')) : Does MC P B0 a o [n0 + r] H g w v H' := by
  simp only [matchOp] at hm
  split at hm
  · next t l' c' hop =>
    split at hm
    · next e hsl =>
      simp only [Bool.and_eq_true] at hm
      obtain ⟨⟨⟨⟨⟨h1, h2⟩, h3⟩, h4⟩, h5⟩, h6⟩ := hm
      have hu := sliceOf_spec hsl
      have hk : P.cellsOf e = k := by simpa using h1
      have hby : P.bytesOf e = by_ := by simpa using h2
      have hpos : 0 < k := by simpa using h4
      obtain ⟨i, zv, hi, hz, hC, hkz⟩ := zeroIs_spec h3 g
      simp only [prim] at h
      split at h
      · next n n' hp hq =>
        split at h
        · next hb =>
          obtain ⟨b1, b2, b3, b4⟩ := hb
          subst b1
          simp at h; obtain ⟨rfl, rfl⟩ := h
          obtain ⟨hi0, hnn⟩ := hF r (by simp)
          have e1 := V_int (ev_V hS h5 hp)
          have e2 := V_int (ev_V hS h6 hq)
          have hwrap : IntKind.i64.wrap n = n := by
            unfold IntKind.wrap
            simp [IntKind.bits, IntKind.signed]
            omega
          have hib : i.bytes = by_ := by rw [← hby]; simp [Program.bytesOf, hi]
          have his : i.size = k := by rw [← hk]; simp [Program.cellsOf, hi]
          have hrz := rows_zero (n := n.toNat) hC (by omega) hpos
          have hrun := run_make (P := P) w t e i zv hu hi hz .i64 .i64 n n b2 (Int.le_refl _) (by rw [hib, Int.mul_comm]; omega) (by omega)
          rw [his] at hrun
          obtain ⟨q1, q2, q3⟩ := hrz
          have hfz := zeroIs_frz h3
          have := hR.alloc hi0 hnn (.cells (madeCells zv.cells (n.toNat * k)) e) (o' := .arr k false (List.replicate n.toNat z)) (gb' := .arr k (.slice (some ⟨w.heap.size, 0, none⟩) n.toNat n.toNat)) rfl
            ⟨rfl, hpos, q2, .inr ⟨w.heap.size, n.toNat, e, _, by simp, by simp, by simp only [maxLen]; omega, heap_alloc_new w _, by simp [madeCells], fun i r j x hi hj => ?_, fun _ off => hR.phi_none (Nat.le_refl _), by simp⟩⟩
          · refine ⟨.slice (some ⟨w.heap.size, 0, none⟩) n.toNat n.toNat, _, _, .inl ?_, ?_, this.1, this.2, by simp [hset], nn_upd (by simp) _ _⟩
            · simp [execOp, hop, e1, e2, hrun]
            · exact .asl _ _ k _ _ (by simp [updL]) (by simp [slen]) rfl (fun _ => rfl)
          · obtain ⟨u, hu', hV, ho⟩ := q3 i r j x hi hj
            have hr : r = z := (List.mem_replicate.1 (List.mem_of_getElem? hi)).2
            subst hr
            exact ⟨u, hu', show Den g.Φ x u from frz_den (List.all_eq_true.1 hfz x (List.mem_of_getElem? hj)) hV⟩
        · cases h
      · cases h
    · cases hm
  · cases hm
end
end Am
