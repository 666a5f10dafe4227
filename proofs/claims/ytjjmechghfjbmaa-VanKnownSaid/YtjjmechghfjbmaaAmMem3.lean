/- Slices that become public; variables that hold slices; slices that are made. -/
import Derived.Test.YtjjmechghfjbmaaAmMem2
set_option linter.unusedVariables false
set_option linter.unusedSimpArgs false
set_option linter.unnecessarySimpa false
namespace Am
open Go
section
variable {MC : Nat → Code → ACode → Prop} {P : Program} {B0 : Nat} {c : Sc} {n0 : Nat} {H H' : AHeap} {g : Ghost} {w : World} {s : Slots} {a : Act} {o : Oper} {v : AV}

theorem seq_of_arr {k : Nat} {rows : List (List AV)} {v0 : Value} (h : BoxOk MC P g w (.arr k true rows) (.arr k v0)) : Den g.Φ (.seq k rows) v0 := by
  obtain ⟨_, hk, hlen, h0⟩ := h
  rcases h0 with ⟨rfl, rfl⟩ | ⟨β, cp, e, cur, rfl, h5, h6, h7, h8, h9, h10, h11⟩
  · exact .seq0 _ _ _
  · obtain ⟨p1, p2⟩ := h11 rfl
    refine .seq _ _ _ _ (fun i j => (cur[i * k + j]?).getD undef) rfl h5 hlen (fun i r j x hi hj => ?_) (fun i r j x hi hj => ?_)
    all_goals obtain ⟨u, hu, hd⟩ := h9 i r j x hi hj
    · have hin : i < rows.length := (List.getElem?_eq_some_iff.1 hi).1
      have hjk : j < k := by have h1 := (List.getElem?_eq_some_iff.1 hj).1; have h2 := hlen r (List.mem_of_getElem? hi); omega
      have := mul_lt_of (k := k) hin
      simp only [Nat.zero_add, hu, Option.getD_some]
      rw [p1 _ (by omega), hu]
    · simpa only [hu, Option.getD_some] using hd

/-- An array becomes public. -/
theorem Rel.publish (hR : Rel MC P B0 H g w) {b k : Nat} {rows : List (List AV)} (hb : H[b]? = some (.arr k false rows)) {v0 : Value} (hL : g.L b = .arr k v0) :
    ∃ g', Rel MC P B0 (H.set b (.arr k true rows)) g' w ∧ Ext H g w (H.set b (.arr k true rows)) g' w ∧ g'.L = g.L ∧ Den g'.Φ (.seq k rows) v0 := by
  have hbox := hR.box b _ hb
  rw [hL] at hbox
  obtain ⟨_, hk, hlen, h0⟩ := hbox
  have hi := (List.getElem?_eq_some_iff.1 hb).1
  rcases h0 with ⟨rfl, rfl⟩ | ⟨β, cp, e, cur, rfl, h5, h6, h7, h8, h9, h10, h11⟩
  · have := hR.upd hi (.inl ⟨_, hb, rfl⟩) (o' := .arr k true []) (gb' := g.L b) (Φ' := g.Φ) (w' := w) rfl rfl rfl (Nat.le_refl _) (fun _ _ _ => rfl) (GB.le_refl _)
      (fun β hβ => by rw [hL] at hβ; simp [GB.blk] at hβ) (fun _ _ _ h => h) (fun _ _ _ _ => rfl) (fun β off u h => hR.phi β off u h) (by rw [hL]; exact ⟨rfl, hk, by simp, .inl ⟨rfl, rfl⟩⟩)
    have e1 : updL g.L b (g.L b) = g.L := by funext j; simp only [updL]; split; (next e => rw [e]); rfl
    rw [e1] at this
    exact ⟨_, this.1, this.2, rfl, .seq0 _ _ _⟩
  · have hbase := hR.base b β (by rw [hL]; rfl)
    have hlt : rows.length * k ≤ cur.size := by rw [h8]; exact Nat.mul_le_mul_right _ h5
    have := hR.upd hi (.inl ⟨_, hb, rfl⟩) (o' := .arr k true rows) (gb' := g.L b) (Φ' := fun β' off => if β' = β ∧ off < rows.length * k then cur[off]? else g.Φ β' off) (w' := w) rfl rfl rfl (Nat.le_refl _) (fun _ _ _ => rfl) (GB.le_refl _)
      (fun β' hβ => ⟨.inl hβ, (hR.base b β' hβ).2⟩)
      (fun β' off u h => by
        have : ¬ (β' = β ∧ off < rows.length * k) := by rintro ⟨rfl, _⟩; rw [h10 rfl off] at h; cases h
        simp only [if_neg this]; exact h)
      (fun β' _ hne off => by
        have : ¬ (β' = β ∧ off < rows.length * k) := by rintro ⟨rfl, _⟩; exact hne (by rw [hL]; rfl)
        simp only [if_neg this])
      (fun β' off u h => by
        try simp only at h
        split at h
        · next e1 => obtain ⟨rfl, _⟩ := e1; simp [World.cell?, h7, h]
        · exact hR.phi β' off u h)
      (by
        rw [hL]
        refine ⟨rfl, hk, hlen, .inr ⟨β, cp, e, cur, rfl, h5, h6, h7, h8, fun i r j x hi hj => ?_, by simp, fun _ => ⟨fun off ho => by simp [ho], fun off ho => ?_⟩⟩⟩
        · obtain ⟨u, hu, hd⟩ := h9 i r j x hi hj
          refine ⟨u, hu, hd.mono (fun β' off u h => ?_)⟩
          have : ¬ (β' = β ∧ off < rows.length * k) := by rintro ⟨rfl, _⟩; rw [h10 rfl off] at h; cases h
          simp only [if_neg this]; exact h
        · have : ¬ (off < rows.length * k) := by omega
          simp [this]; exact h10 rfl off)
    have e1 : updL g.L b (g.L b) = g.L := by funext j; simp only [updL]; split; (next e => rw [e]); rfl
    rw [e1] at this
    refine ⟨_, this.1, this.2, rfl, ?_⟩
    have hb2 := this.1.box b (.arr k true rows) (by simp [hi])
    simp only [AO.rd] at hb2
    rw [hL] at hb2
    exact seq_of_arr hb2

structure Froze (MC : Nat → Code → ACode → Prop) (P : Program) (B0 : Nat) (H : AHeap) (g : Ghost) (w : World) (H' : AHeap) (g' : Ghost) : Prop where
  rel : Rel MC P B0 H' g' w
  ext : Ext H g w H' g' w
  len : H'.length = H.length
  L : g'.L = g.L

theorem Froze.refl (hR : Rel MC P B0 H g w) : Froze MC P B0 H g w H g := ⟨hR, Ext.refl _ _ _, rfl, rfl⟩
theorem Froze.trans {H1 H2 : AHeap} {g1 g2 : Ghost} (h : Froze MC P B0 H g w H1 g1) (k : Froze MC P B0 H1 g1 w H2 g2) : Froze MC P B0 H g w H2 g2 :=
  ⟨k.rel, h.ext.trans k.ext, k.len.trans h.len, k.L.trans h.L⟩

theorem frv_sound (hR : Rel MC P B0 H g w) {v' : AV} {u : Value} (hV : V g v u) (h : frv H v = some (v', H')) : ∃ g', Froze MC P B0 H g w H' g' ∧ V g' v' u := by
  cases v with
  | asl b n =>
    have key : ∀ k pb rows v0, g.L b = .arr k v0 → rows.length = n → BoxOk MC P g w (.arr k pb rows) (.arr k v0) → u = v0 := by
      intro k pb rows v0 hL hn hbox
      cases hV with
      | den _ _ hd => cases hd
      | asl _ _ k2 v1 _ hL' hle hone hnv =>
        rw [hL] at hL'; cases hL'
        obtain ⟨_, _, _, h0⟩ := hbox
        rcases h0 with ⟨rfl, rfl⟩ | ⟨β, cp, e, cur, rfl, _⟩
        · exact hnv (by simpa [slen] using hn)
        · exact hnv (by simpa [slen] using hn)
    simp only [frv] at h
    split at h
    · next k rows hc =>
      split at h
      · next hn =>
        simp at h; obtain ⟨rfl, rfl⟩ := h
        obtain ⟨v0, hL, hbox⟩ := hR.arr hc
        have := key k true rows v0 hL (Nat.eq_of_beq_eq_true hn) hbox
        subst this
        exact ⟨g, .refl hR, .den _ _ (seq_of_arr hbox)⟩
      · cases h
    · next k rows hc =>
      split at h
      · next r hw =>
        split at h
        · next hn =>
          simp at h; obtain ⟨rfl, rfl⟩ := h
          obtain ⟨v0, hL, hbox⟩ := hR.arr hc
          have := key k false rows v0 hL (Nat.eq_of_beq_eq_true hn) hbox
          subst this
          have hb := harrW_get hw
          have e1 : r = (k, false, rows) := by
            unfold harr hget at hc
            rw [hb] at hc
            simp at hc
            obtain ⟨r1, r2, r3⟩ := r
            simp at hc; simp [hc]
          subst e1
          obtain ⟨g', q1, q2, q3, q4⟩ := hR.publish hb hL
          exact ⟨g', ⟨q1, q2, by simp [hset], q3⟩, .den _ _ q4⟩
        · cases h
      · cases h
    · cases h
  | _ =>
    simp [frv] at h
    obtain ⟨rfl, rfl⟩ := h
    exact ⟨g, .refl hR, hV⟩

theorem frvL_sound : ∀ {l l' : List AV} {H H' : AHeap} {g : Ghost} {us : List Value}, Rel MC P B0 H g w → us.length = l.length → (∀ (j : Nat) x, l[j]? = some x → V g x (us[j]?.getD undef)) → frvL H l = some (l', H') →
    ∃ g', Froze MC P B0 H g w H' g' ∧ l'.length = l.length ∧ ∀ (j : Nat) x, l'[j]? = some x → V g' x (us[j]?.getD undef)
  | [], l', H, H', g, us, hR, hl, hV, h => by
    simp [frvL] at h; obtain ⟨rfl, rfl⟩ := h
    exact ⟨g, .refl hR, rfl, fun j x hj => by simp at hj⟩
  | v :: l, l', H, H', g, us, hR, hl, hV, h => by
    cases us with
    | nil => simp at hl
    | cons u us =>
      simp only [frvL] at h
      split at h
      · cases h
      · next v1 H1 h1 =>
        split at h
        · cases h
        · next l1 H2 h2 =>
          simp at h; obtain ⟨rfl, rfl⟩ := h
          obtain ⟨g1, f1, hv1⟩ := frv_sound hR (by simpa using hV 0 v rfl) h1
          obtain ⟨g2, f2, hl2, hv2⟩ := frvL_sound f1.rel (us := us) (by simpa using hl) (fun j x hj => by simpa using (hV (j + 1) x (by simpa using hj)).mono f1.ext.le) h2
          refine ⟨g2, f1.trans f2, by simp [hl2], fun j x hj => ?_⟩
          cases j with
          | zero => simp at hj; subst hj; simpa using hv1.mono f2.ext.le
          | succ j => simp at hj; simpa using hv2 j x hj

/-- Freezing leaves aggregates aggregates: their cells' values have one cell. -/
theorem frvA_sound (hR : Rel MC P B0 H g w) {v' : AV} {u : Value} (hV : V g v u) (h : frvA H v = some (v', H')) : ∃ g', Froze MC P B0 H g w H' g' ∧ V g' v' u := by
  cases v with
  | agg cs =>
    simp only [frvA, Option.map_eq_some_iff] at h
    obtain ⟨⟨l', H1⟩, h1, h2⟩ := h
    simp at h2; obtain ⟨rfl, rfl⟩ := h2
    obtain ⟨vs, rfl, hl, hx⟩ := V_agg hV
    obtain ⟨g', f, q1, q2⟩ := frvL_sound hR (us := vs.toList) (by simpa using hl) (fun j x hj => by simpa using (hx j x hj).2.1) h1
    refine ⟨g', f, .agg _ _ (by rw [hl, q1]) (fun j x hj => by simpa using q2 j x hj) (fun j x hj => ?_)⟩
    have hlt : j < cs.length := by have := (List.getElem?_eq_some_iff.1 hj).1; omega
    exact (hx j cs[j] (by simp [hlt])).2.2
  | nils k =>
    simp [frvA] at h
    obtain ⟨rfl, rfl⟩ := h
    cases hV with
    | den _ _ hd => cases hd; exact ⟨g, .refl hR, .den _ _ (.seq0 _ _ _)⟩
  | _ => exact frv_sound hR hV (by simpa [frvA] using h)

theorem frvAs_sound : ∀ {l l' : List AV} {H H' : AHeap} {g : Ghost} {us : List Value}, Rel MC P B0 H g w → us.length = l.length → (∀ (j : Nat) x, l[j]? = some x → V g x (us[j]?.getD undef)) → frvAs H l = some (l', H') →
    ∃ g', Froze MC P B0 H g w H' g' ∧ l'.length = l.length ∧ ∀ (j : Nat) x, l'[j]? = some x → V g' x (us[j]?.getD undef)
  | [], l', H, H', g, us, hR, hl, hV, h => by
    simp [frvAs] at h; obtain ⟨rfl, rfl⟩ := h
    exact ⟨g, .refl hR, rfl, fun j x hj => by simp at hj⟩
  | v :: l, l', H, H', g, us, hR, hl, hV, h => by
    cases us with
    | nil => simp at hl
    | cons u us =>
      simp only [frvAs] at h
      split at h
      · cases h
      · next v1 H1 h1 =>
        split at h
        · cases h
        · next l1 H2 h2 =>
          simp at h; obtain ⟨rfl, rfl⟩ := h
          obtain ⟨g1, f1, hv1⟩ := frvA_sound hR (by simpa using hV 0 v rfl) h1
          obtain ⟨g2, f2, hl2, hv2⟩ := frvAs_sound f1.rel (us := us) (by simpa using hl) (fun j x hj => by simpa using (hV (j + 1) x (by simpa using hj)).mono f1.ext.le) h2
          refine ⟨g2, f1.trans f2, by simp [hl2], fun j x hj => ?_⟩
          cases j with
          | zero => simp at hj; subst hj; simpa using hv1.mono f2.ext.le
          | succ j => simp at hj; simpa using hv2 j x hj

theorem publish_sound : ∀ {l : List Nat} {H H' : AHeap} {g : Ghost}, Rel MC P B0 H g w → SlotsOk g s a.tmps → publish s H l = some H' → ∃ g', Froze MC P B0 H g w H' g'
  | [], H, H', g, hR, _, h => by simp [publish] at h; subst h; exact ⟨g, .refl hR⟩
  | t :: l, H, H', g, hR, hS, h => by
    simp only [publish] at h
    split at h
    · next v hv =>
      split at h
      · next r hr =>
        obtain ⟨x, hx, hV⟩ := hS t v hv
        obtain ⟨g1, f1, _⟩ := frvA_sound hR hV (v' := r.1) (H' := r.2) hr
        obtain ⟨g2, f2⟩ := publish_sound f1.rel (hS.mono f1.ext.le) h
        exact ⟨g2, f1.trans f2⟩
      · cases h
    · cases h

theorem Froze.does {g' : Ghost} (f : Froze MC P B0 H g w H' g') {x : Value} (h1 : (execOp a.eval o).run P w = .ok (.value x) w) (hV : V g' v x) (X : List Nat) : Does MC P B0 a o X H g w v H' :=
  ⟨x, w, g', .inl h1, hV, f.rel, f.ext, f.len, fun i _ hn => by rw [f.L]; exact hn⟩

theorem m_sliceL {k : Nat} {x : Opd} {lo hi : Option Opd} (hm : matchOp P o.op (.sliceL k x lo hi) = true) (hR : Rel MC P B0 H g w) (hS : SlotsOk g s a.tmps) (h : prim c n0 s H (.sliceL k x lo hi) = some (v, H')) : Does MC P B0 a o [] H g w v H' := by
  simp only [matchOp] at hm
  split at hm
  · next t x' lo' hi' hop =>
    simp only [Bool.and_eq_true] at hm
    obtain ⟨⟨⟨h1, h2⟩, h3⟩, h4⟩ := hm
    split at h1
    · next e hsl =>
      have hu := sliceOf_spec hsl
      simp at h1
      obtain ⟨⟨hk, hkn⟩, hpos⟩ := h1
      simp only [prim] at h
      split at h
      · next p hp =>
        split at h
        · next k2 rows H1 hf =>
          split at h
          · next l hh hl hr =>
            split at h
            · next hb =>
              simp at h; obtain ⟨rfl, rfl⟩ := h
              obtain ⟨b1, b2, b3, rfl⟩ := hb
              obtain ⟨g', f, hV⟩ := frvA_sound hR (ev_V hS h2 hp) hf
              have q1 : ((lo'.map a.eval) = none ∧ l = 0) ∨ ∃ k, (lo'.map a.eval) = some (.int k l) := by
                rcases bnd_run h3 hS hl with ⟨e1, e2⟩ | ⟨x2, k, e1, e2⟩
                · exact .inl ⟨by simp [e1], e2⟩
                · exact .inr ⟨k, by simp [e1, e2]⟩
              have q2 : ((hi'.map a.eval) = none ∧ hh = rows.length) ∨ ∃ k, (hi'.map a.eval) = some (.int k hh) := by
                rcases bnd_run h4 hS hr with ⟨e1, e2⟩ | ⟨x2, k, e1, e2⟩
                · exact .inl ⟨by simp [e1], e2⟩
                · exact .inr ⟨k, by simp [e1, e2]⟩
              have hrun : ∀ ad cp, rows.length ≤ cp → a.eval x' = .slice ad rows.length cp →
                  (execOp a.eval o).run P w = .ok (.value (.slice (if cp = l.toNat then ad else ad.map (·.add (l.toNat * k2))) (hh.toNat - l.toNat) (cp - l.toNat))) w := by
                intro ad cp hcp he
                have := run_sliceBounds (P := P) (isSlice := true) b1 b2 b3 hcp q1 q2 w
                simp [execOp, hop, Instr.sliceAt, run_underlying hu, he, Instr.slice, this, run_sizeOf (known_info hkn), hk]
              generalize hev : a.eval x' = u at hV
              cases hV with
              | den _ _ hd =>
                cases hd with
                | seq0 _ ad cp =>
                  simp at b3
                  have e1 : l = 0 := by omega
                  have e2 : hh = 0 := by omega
                  subst e1 e2
                  refine f.does (hrun ad cp (by simp) (by simpa using hev)) ?_ []
                  refine .den _ _ ?_
                  simpa using Den.seq0 _ _ _
                | seq _ _ ad cp vs hs hcap hlen p1 p2 =>
                  have hx := hrun (some ad) cp hcap hev
                  have hlen2 : ((rows.take hh.toNat).drop l.toNat).length = hh.toNat - l.toNat := by simp; omega
                  by_cases hz : hh.toNat - l.toNat = 0
                  · refine f.does hx (.den _ _ ?_) []
                    have : (rows.take hh.toNat).drop l.toNat = [] := List.eq_nil_of_length_eq_zero (by omega)
                    rw [this, hz]
                    exact .seq0 _ _ _
                  · have hne : ¬ cp = l.toNat := by omega
                    rw [if_neg hne] at hx
                    refine f.does hx (.den _ _ ?_) []
                    rw [← hlen2]
                    simp only [Option.map_some]
                    rw [add_spot hs]
                    refine .seq _ _ _ _ (fun i j => vs (l.toNat + i) j) rfl (by omega) (fun r hr => hlen r (List.mem_of_mem_take (List.mem_of_mem_drop hr))) (fun i r j x hi hj => ?_) (fun i r j x hi hj => ?_)
                    all_goals
                      have hi' : rows[l.toNat + i]? = some r := by
                        rw [List.getElem?_drop] at hi
                        rw [List.getElem?_take] at hi
                        split at hi
                        · exact hi
                        · cases hi
                    · have := p1 _ _ _ _ hi' hj
                      rw [Nat.add_mul] at this
                      have e : ad.off + l.toNat * k2 + (i * k2 + j) = ad.off + (l.toNat * k2 + i * k2 + j) := by omega
                      simp only [e]; exact this
                    · exact p2 _ _ _ _ hi' hj
            · cases h
          · cases h
        · cases h
      · cases h
    · cases h1
  · cases hm
end
end Am
