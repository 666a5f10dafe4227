/- Slices that are appended to. -/
import Derived.Test.YtjjmechghfjbmaaAmMem6
set_option linter.unusedVariables false
set_option linter.unusedSimpArgs false
set_option linter.unnecessarySimpa false
namespace Am
open Go
section
variable {MC : Nat → Code → ACode → Prop} {P : Program} {B0 : Nat} {c : Sc} {n0 : Nat} {H H' : AHeap} {g : Ghost} {w : World} {s : Slots} {a : Act} {o : Oper} {v : AV}

theorem Rel.drew (hR : Rel MC P B0 H g w) : Rel MC P B0 H g w.drew :=
  ⟨hR.phi, hR.base, hR.inj, fun i o ho => (hR.box i o ho).mono (Ghost.le_refl g) (fun _ _ => ⟨rfl, fun _ => rfl⟩), hR.nolive, hR.b0⟩
theorem Ext.drew (H : AHeap) (g : Ghost) (w : World) : Ext H g w H g w.drew :=
  ⟨Nat.le_refl _, rfl, rfl, rfl, Nat.le_refl _, Ghost.le_refl g, fun _ _ h => .inl h, fun _ _ _ _ _ => rfl, fun i o h k => .inr ⟨o, h, k⟩, fun _ _ _ => ⟨rfl, fun _ => rfl⟩⟩

section
variable {t u ty e e2 : TypeId} {i : TypeInfo} {z : Value} (ht : P.underlying t = some (.slice e)) (hu : P.underlying u = some (.slice e2)) (hi : P.info? e = some i) (hz : i.zero = some z)
include ht hu hi hz

omit hz in
theorem run_app_nil (c m : Nat) (ad : Option Addr) (cp n : Nat) {news : Array Value} (hx : (Builtin.firstCells i.size m (.slice ad m cp)).run P w = .ok news w) (hroom : n + m ≤ c) :
    (Builtin.append_ #[t, u] ty #[.slice none n c, .slice ad m cp]).run P w = .ok (.slice none (n + m) c) w := by
  simp [Builtin.append_, run_underlying ht, run_underlying hu, Go.sizeOf, typeInfo, hi, Builtin.lenOf, hroom, hx]

omit hz in
theorem run_app_room (e' : TypeId) (β c m : Nat) (ad : Option Addr) (cp n : Nat) {news cur : Array Value} (hx : (Builtin.firstCells i.size m (.slice ad m cp)).run P w = .ok news w) (hroom : n + m ≤ c)
    (hg : w.heap[β]? = some (.cells cur e' (0, 0))) (hfit : n * i.size + news.size ≤ cur.size) (h1 : ∀ x ∈ news.toList, x.oneCell' = true) :
    (Builtin.append_ #[t, u] ty #[.slice (some ⟨β, 0, none⟩) n c, .slice ad m cp]).run P w =
      .ok (.slice (some ⟨β, 0, none⟩) (n + m) c) (w.setRow β (cur.toList.take (n * i.size) ++ news.toList ++ cur.toList.drop (n * i.size + news.toList.length)).toArray) := by
  have hst := run_storeCells_at P β (n * i.size) e' news.toList 0 cur w hg (by simpa using hfit) h1
  simp only [Nat.add_zero] at hst
  simp [Builtin.append_, run_underlying ht, run_underlying hu, Go.sizeOf, typeInfo, hi, Builtin.lenOf, hroom, hx, Addr.add_lit, hst]

theorem run_app_grow (b : Option Addr) (c m : Nat) (ad : Option Addr) (cp n : Nat) {news olds : Array Value} (hx : (Builtin.firstCells i.size m (.slice ad m cp)).run P w.drew = .ok news w.drew)
    (ho : (Builtin.firstCells i.size n (.slice b n c)).run P w.drew = .ok olds w.drew) (hroom : ¬ n + m ≤ c)
    (h63 : ((n + m : Nat) : Int) ≤ 9223372036854775807) (hfit : Builtin.nextslicecap (n + m) c * i.bytes ≤ 281474976710656) :
    (Builtin.append_ #[t, u] ty #[.slice b n c, .slice ad m cp]).run P w =
      .ok (.slice (some ⟨w.heap.size, 0, none⟩) (n + m) (grownCap w (n + m) c e)) (w.drew.alloc (.cells (olds ++ news ++ Builtin.zeroCells z.cells (grownCap w (n + m) c e - (n + m))) e)) := by
  have h63' : ¬ (9223372036854775807 < ((n : Int) + (m : Int))) := by omega
  have h48' : ¬ (281474976710656 < Builtin.nextslicecap (n + m) c * i.bytes) := by omega
  simp [Builtin.append_, run_underlying ht, run_underlying hu, Go.sizeOf, typeInfo, zeroValue, hi, hz, Builtin.lenOf, hroom, h63', h48', Question.forced, hx, ho, newRow, grownCap]
end

/-- Rows, one list of them after another. -/
theorem rows_app {k : Nat} {rows new : List (List AV)} {Φ : Nat → Nat → Option Value} (hlen : ∀ r ∈ rows, r.length = k) (hlen2 : ∀ r ∈ new, r.length = k) {cur' : Nat → Option Value}
    (h9 : ∀ (i : Nat) (r : List AV) (j : Nat) (x : AV), rows[i]? = some r → r[j]? = some x → ∃ u, cur' (i * k + j) = some u ∧ Den Φ x u)
    (hn : ∀ (i : Nat) (r : List AV) (j : Nat) (x : AV), new[i]? = some r → r[j]? = some x → ∃ u, cur' (rows.length * k + (i * k + j)) = some u ∧ Den Φ x u) :
    (∀ r ∈ rows ++ new, r.length = k) ∧ ∀ (i : Nat) (r : List AV) (j : Nat) (x : AV), (rows ++ new)[i]? = some r → r[j]? = some x → ∃ u, cur' (i * k + j) = some u ∧ Den Φ x u := by
  refine ⟨fun r hr => (List.mem_append.1 hr).elim (hlen r) (hlen2 r), fun i r j x hi hj => ?_⟩
  rw [List.getElem?_append] at hi
  split at hi
  · exact h9 i r j x hi hj
  · next h =>
    obtain ⟨u, h1, h2⟩ := hn _ r j x hi hj
    refine ⟨u, ?_, h2⟩
    rw [← h1]; congr 1
    rw [← Nat.add_assoc, ← Nat.add_mul]
    congr 2; omega

/-- A box that is no longer used. -/
theorem Rel.kill (hR : Rel MC P B0 H g w) {b : Nat} (hb : ∃ ob, H[b]? = some ob ∧ ob.isW = true) : Rel MC P B0 (H.set b .dead) g w ∧ Ext H g w (H.set b .dead) g w := by
  obtain ⟨ob, h1, h2⟩ := hb
  have hi := (List.getElem?_eq_some_iff.1 h1).1
  have e1 : updL g.L b (g.L b) = g.L := by funext j; simp only [updL]; split; (next e => rw [e]); rfl
  have := hR.upd hi (.inl ⟨_, h1, h2⟩) (o' := .dead) (gb' := g.L b) (Φ' := g.Φ) (w' := w) rfl rfl rfl (Nat.le_refl _) (fun _ _ _ => rfl) (GB.le_refl _)
      (fun β hβ => ⟨.inl hβ, (hR.base b β hβ).2⟩) (fun _ _ _ h => h) (fun _ _ _ _ => rfl) (fun β off u h => hR.phi β off u h) trivial
  rw [e1] at this
  exact this

/-- The cells of a grown array. -/
theorem grown_cells {k by_ : Nat} {e : TypeId} {z : Value} {rows new : List (List AV)} {olds news : Array Value} {Φ : Nat → Nat → Option Value} {need cap : Nat} (hzs : z.cells.size = k)
    (hlen : ∀ r ∈ rows, r.length = k) (hlen2 : ∀ r ∈ new, r.length = k) (ho : olds.size = rows.length * k) (hn : news.size = new.length * k) (hneed : need = rows.length + new.length) (hcap : need ≤ cap)
    (h9 : ∀ (i : Nat) (r : List AV) (j : Nat) (x : AV), rows[i]? = some r → r[j]? = some x → ∃ u, olds[i * k + j]? = some u ∧ Den Φ x u)
    (h10 : ∀ (i : Nat) (r : List AV) (j : Nat) (x : AV), new[i]? = some r → r[j]? = some x → ∃ u, news[i * k + j]? = some u ∧ Den Φ x u) :
    (∀ r ∈ rows ++ new, r.length = k) ∧ (olds ++ news ++ Builtin.zeroCells z.cells (cap - need)).size = cap * k ∧
    ∀ (i : Nat) (r : List AV) (j : Nat) (x : AV), (rows ++ new)[i]? = some r → r[j]? = some x → ∃ u, (olds ++ news ++ Builtin.zeroCells z.cells (cap - need))[i * k + j]? = some u ∧ Den Φ x u := by
  have hget : ∀ q, q < olds.size → (olds ++ news ++ Builtin.zeroCells z.cells (cap - need))[q]? = olds[q]? := fun q hq => by
    rw [Array.append_assoc, Array.getElem?_append, if_pos hq]
  have hget2 : ∀ q, q < news.size → (olds ++ news ++ Builtin.zeroCells z.cells (cap - need))[olds.size + q]? = news[q]? := fun q hq => by
    rw [Array.append_assoc, Array.getElem?_append, if_neg (by omega), Array.getElem?_append, if_pos (by omega)]
    congr 1; omega
  obtain ⟨a1, a2⟩ := rows_app (cur' := fun q => (olds ++ news ++ Builtin.zeroCells z.cells (cap - need))[q]?) hlen hlen2 (Φ := Φ) (fun i r j x hi hj => by
    obtain ⟨u, h1, h2⟩ := h9 i r j x hi hj
    exact ⟨u, (hget _ (Array.getElem?_eq_some_iff.1 h1).1).trans h1, h2⟩) (fun i r j x hi hj => by
    obtain ⟨u, h1, h2⟩ := h10 i r j x hi hj
    refine ⟨u, ?_, h2⟩
    show _ = _
    rw [← ho]
    exact (hget2 _ (Array.getElem?_eq_some_iff.1 h1).1).trans h1)
  refine ⟨a1, ?_, a2⟩
  simp only [Array.size_append, size_zeroCells, hzs, ho, hn, ← Nat.add_mul]
  congr 1; omega

/-- An array over a new block. -/
theorem Rel.moved (hR : Rel MC P B0 H g w) {b k : Nat} {p : Bool} {rows rows' : List (List AV)} {v0 : Value} (hb : H[b]? = some (.arr k p rows)) (hL : g.L b = .arr k v0) {cur : Array Value} {e : TypeId} {cap : Nat} (hpos : 0 < k)
    (h1 : rows'.length ≤ cap) (h2 : cap ≤ maxLen) (h3 : cur.size = cap * k) (h4 : ∀ r ∈ rows', r.length = k)
    (h5 : ∀ (i : Nat) (r : List AV) (j : Nat) (x : AV), rows'[i]? = some r → r[j]? = some x → ∃ u, cur[i * k + j]? = some u ∧ Den g.Φ x u) (hlt : slen v0 < rows'.length) :
    ∃ g', Rel MC P B0 (H.set b (.arr k p rows')) g' (w.alloc (.cells cur e)) ∧ Ext H g w (H.set b (.arr k p rows')) g' (w.alloc (.cells cur e)) ∧ g'.L b = .arr k (.slice (some ⟨w.heap.size, 0, none⟩) rows'.length cap) ∧ ∀ i, g.L i = .none → g'.L i = .none := by
  have hi := (List.getElem?_eq_some_iff.1 hb).1
  have hb0 := hR.phi_none (β := w.heap.size) (off := 0) (Nat.le_refl _)
  have hcur : rows'.length * k ≤ cur.size := by rw [h3]; exact Nat.mul_le_mul_right _ h1
  have hΦ : ∀ β off u, g.Φ β off = some u → (if p = true ∧ β = w.heap.size ∧ off < rows'.length * k then cur[off]? else g.Φ β off) = some u := by
    intro β off u h
    have := hR.phi_lt h
    rw [if_neg (by omega)]; exact h
  have := hR.upd hi (.inl ⟨_, hb, rfl⟩) (o' := .arr k p rows') (gb' := .arr k (.slice (some ⟨w.heap.size, 0, none⟩) rows'.length cap)) (Φ' := fun β off => if p = true ∧ β = w.heap.size ∧ off < rows'.length * k then cur[off]? else g.Φ β off)
    (w' := w.alloc (.cells cur e)) rfl rfl rfl (by simp) (fun β hβ _ => heap_alloc_old w _ β hβ) (by rw [hL]; exact .inr ⟨_, rfl, by simpa [slen] using hlt⟩)
    (fun β hβ => by simp [GB.blk] at hβ; subst hβ; exact ⟨.inr (Nat.le_refl _), by simp⟩) hΦ (fun β hβ _ off => by
      have : ¬ (p = true ∧ β = w.heap.size ∧ off < rows'.length * k) := by omega
      simp only [if_neg this]) (fun β off u h => by
      try simp only at h
      split at h
      · next e1 => obtain ⟨_, rfl, _⟩ := e1; simp [h]
      · rw [World.cell?_alloc_lt _ _ _ (hR.phi_lt h)]; exact hR.phi β off u h)
    ⟨rfl, hpos, h4, .inr ⟨w.heap.size, cap, e, cur, rfl, h1, h2, heap_alloc_new w _, h3, fun i r j x hi hj => by
        obtain ⟨u, hu, hd⟩ := h5 i r j x hi hj
        exact ⟨u, hu, hd.mono hΦ⟩, fun hp off => by simp [hp]; exact hR.phi_none (Nat.le_refl _), fun hp => ⟨fun off ho => by simp [hp, ho], fun off ho => by
          show (if p = true ∧ w.heap.size = w.heap.size ∧ off < rows'.length * k then cur[off]? else g.Φ w.heap.size off) = none
          rw [if_neg (by omega)]; exact hR.phi_none (Nat.le_refl _)⟩⟩⟩
  refine ⟨_, this.1, this.2, by simp [updL], fun j hj => ?_⟩
  have hne : j ≠ b := by intro e; subst e; rw [hL] at hj; cases hj
  simpa [updL, hne] using hj

/-- An array that grows in its block. -/
theorem Rel.grewIn (hR : Rel MC P B0 H g w) {b k : Nat} {p : Bool} {rows new : List (List AV)} {β cp : Nat} (hb : H[b]? = some (.arr k p rows)) (hL : g.L b = .arr k (.slice (some ⟨β, 0, none⟩) rows.length cp)) {cur cur' : Array Value} {e : TypeId}
    (hg : w.heap[β]? = some (.cells cur e (0, 0))) (hpos : 0 < k) (h1 : (rows ++ new).length ≤ cp) (h2 : cp ≤ maxLen) (h3 : cur.size = cp * k) (h3' : cur'.size = cp * k) (h4 : ∀ r ∈ rows ++ new, r.length = k)
    (hold : ∀ off, off < rows.length * k → cur'[off]? = cur[off]?) (hΦp : p = false → ∀ o, g.Φ β o = none) (hΦt : p = true → (∀ o, o < rows.length * k → g.Φ β o = cur[o]?) ∧ ∀ o, rows.length * k ≤ o → g.Φ β o = none)
    (h5 : ∀ (i : Nat) (r : List AV) (j : Nat) (x : AV), (rows ++ new)[i]? = some r → r[j]? = some x → ∃ u, cur'[i * k + j]? = some u ∧ Den g.Φ x u) :
    ∃ g', Rel MC P B0 (H.set b (.arr k p (rows ++ new))) g' (w.setRow β cur') ∧ Ext H g w (H.set b (.arr k p (rows ++ new))) g' (w.setRow β cur') ∧ g'.L b = .arr k (.slice (some ⟨β, 0, none⟩) (rows ++ new).length cp) ∧ ∀ i, g.L i = .none → g'.L i = .none := by
  have hcur : (rows ++ new).length * k ≤ cur'.size := by rw [h3']; exact Nat.mul_le_mul_right _ h1
  have hrl : rows.length * k ≤ (rows ++ new).length * k := Nat.mul_le_mul_right _ (by simp)
  have hΦ : ∀ γ off u, g.Φ γ off = some u → (if p = true ∧ γ = β ∧ off < (rows ++ new).length * k then cur'[off]? else g.Φ γ off) = some u := by
    intro γ off u h
    split
    · next e1 =>
      obtain ⟨hp, rfl, ho⟩ := e1
      obtain ⟨t1, t2⟩ := hΦt hp
      by_cases ho2 : off < rows.length * k
      · rw [hold off ho2, ← t1 off ho2]; exact h
      · rw [t2 off (by omega)] at h; cases h
    · exact h
  have := hR.write (b := b) ⟨_, hb, rfl⟩ (by rw [hL]; rfl) hg cur' (o' := .arr k p (rows ++ new)) (gb' := .arr k (.slice (some ⟨β, 0, none⟩) (rows ++ new).length cp))
    (by
      rw [hL]
      rcases Nat.eq_zero_or_pos new.length with h0 | h0
      · left; simp [h0]
      · right; exact ⟨_, rfl, by simp [slen]; omega⟩) rfl (fun off hs => by
      cases hp : p with
      | false => rw [hΦp hp off] at hs; cases hs
      | true =>
        obtain ⟨t1, t2⟩ := hΦt hp
        by_cases ho2 : off < rows.length * k
        · rw [hold off ho2, ← t1 off ho2]
        · rw [t2 off (by omega)] at hs; cases hs)
    (Φ' := fun γ off => if p = true ∧ γ = β ∧ off < (rows ++ new).length * k then cur'[off]? else g.Φ γ off) (fun γ off hne => by
      have : ¬ (p = true ∧ γ = β ∧ off < (rows ++ new).length * k) := fun h => hne h.2.1
      simp only [if_neg this]) (fun off u h => hΦ β off u h) (fun off u h => by
      try simp only at h
      split at h
      · exact h
      · next e1 =>
        cases hp : p with
        | false => rw [hΦp hp off] at h; cases h
        | true =>
          obtain ⟨t1, t2⟩ := hΦt hp
          by_cases ho2 : off < rows.length * k
          · rw [hold off ho2, ← t1 off ho2]; exact h
          · rw [t2 off (by omega)] at h; cases h)
    ⟨rfl, hpos, h4, .inr ⟨β, cp, e, cur', rfl, h1, h2, setRow_heap w β cur _ e (0, 0) hg, h3', fun i r j x hi hj => by
        obtain ⟨u, hu, hd⟩ := h5 i r j x hi hj
        exact ⟨u, hu, hd.mono hΦ⟩, fun hp off => by simp [hp]; exact hΦp hp off, fun hp => ⟨fun off ho => by simp [hp]; intro hc; simp at ho; omega, fun off ho => by
          show (if p = true ∧ β = β ∧ off < (rows ++ new).length * k then cur'[off]? else g.Φ β off) = none
          rw [if_neg (by omega)]; exact (hΦt hp).2 off (by omega)⟩⟩⟩
  refine ⟨_, this.1, this.2, by simp [updL], fun j hj => ?_⟩
  have hne : j ≠ b := by intro e; subst e; rw [hL] at hj; cases hj
  simpa [updL, hne] using hj

theorem set_same {H : AHeap} {b : Nat} {ob : AO} (h : H[b]? = some ob) : H.set b ob = H := by
  apply List.ext_getElem?
  intro j
  rw [List.getElem?_set]
  by_cases e : b = j
  · subst e
    have := (List.getElem?_eq_some_iff.1 h).1
    rw [if_pos rfl, if_pos this, h]
  · rw [if_neg e]

/-- What 'append' does to an array of one's own. -/
theorem app_core (hR : Rel MC P B0 H g w) {t u ty e e2 : TypeId} {i : TypeInfo} {z : Value} (ht : P.underlying t = some (.slice e)) (hu : P.underlying u = some (.slice e2)) (hi : P.info? e = some i) (hz : i.zero = some z) {k : Nat} (his : i.size = k) (hpos : 0 < k) (hzs : z.cells.size = k)
    {b : Nat} {p : Bool} {rows new : List (List AV)} {v0 : Value} (hb : H[b]? = some (.arr k p rows)) (hL : g.L b = .arr k v0) (hbox : BoxOk MC P g w (.arr k p rows) (.arr k v0)) {ad : Option Addr} {cp : Nat} {news newd : Array Value}
    (hn1 : (Builtin.firstCells k new.length (.slice ad new.length cp)).run P w = .ok news w) (hn2 : news.size = new.length * k) (hn3 : ∀ x ∈ news.toList, x.oneCell' = true)
    (hn5 : ∀ (i : Nat) (r : List AV) (j : Nat) (x : AV), new[i]? = some r → r[j]? = some x → ∃ u, news[i * k + j]? = some u ∧ Den g.Φ x u)
    (hd1 : (Builtin.firstCells k new.length (.slice ad new.length cp)).run P w.drew = .ok newd w.drew) (hd2 : newd.size = new.length * k) (hd4 : ∀ r ∈ new, r.length = k)
    (hd5 : ∀ (i : Nat) (r : List AV) (j : Nat) (x : AV), new[i]? = some r → r[j]? = some x → ∃ u, newd[i * k + j]? = some u ∧ Den g.Φ x u)
    (h63 : rows.length + new.length ≤ maxLen) (hbytes : (rows.length + new.length) * i.bytes ≤ 140737488355328) :
    ∃ x w' g', (Builtin.append_ #[t, u] ty #[v0, .slice ad new.length cp]).run P w = .ok x w' ∧ Rel MC P B0 (H.set b (.arr k p (rows ++ new))) g' w' ∧ Ext H g w (H.set b (.arr k p (rows ++ new))) g' w' ∧ g'.L b = .arr k x ∧
      x.oneCell' = true ∧ ∀ i, g.L i = .none → g'.L i = .none := by
  subst his
  have hsl := arr_slen hbox
  have hmx : maxLen ≤ 9223372036854775807 := by simp [maxLen]
  obtain ⟨_, hk0, hlen, h0⟩ := hbox
  -- the old cells
  have olds : ∃ (bo : Option Addr) (cp0 : Nat) (olds : Array Value), v0 = .slice bo rows.length cp0 ∧ rows.length ≤ cp0 ∧ (Builtin.firstCells i.size rows.length (.slice bo rows.length cp0)).run P w.drew = .ok olds w.drew ∧ olds.size = rows.length * i.size ∧
      (∀ (i' : Nat) (r : List AV) (j : Nat) (x : AV), rows[i']? = some r → r[j]? = some x → ∃ u, olds[i' * i.size + j]? = some u ∧ Den g.Φ x u) := by
    rcases h0 with ⟨rfl, rfl⟩ | ⟨β, cp0, e', cur, rfl, a5, a6, a7, a8, a9, a10, a11⟩
    · exact ⟨none, 0, #[], rfl, Nat.le_refl _, by simp [Builtin.firstCells], by simp, by simp⟩
    · have hsz : rows.length * i.size ≤ cur.size := by rw [a8]; exact Nat.mul_le_mul_right _ a5
      refine ⟨_, cp0, ((List.range (rows.length * i.size)).map fun m => (cur[m]?).getD undef).toArray, rfl, a5, ?_, by simp, fun i' r j x hi' hj => ?_⟩
      · simp only [Builtin.firstCells]
        rw [run_loadCells (P := P) w.drew ⟨β, 0, none⟩ (rows.length * i.size) (fun m => (cur[m]?).getD undef) (fun m hm => by
          rw [add_spot rfl]
          have : w.drew.heap[β]? = some (.cells cur e' (0, 0)) := a7
          have hml : m < cur.size := by omega
          simp [World.cell?, this, hml])]
      · obtain ⟨u, hu, hd⟩ := a9 i' r j x hi' hj
        have hjk : j < i.size := by have h1 := (List.getElem?_eq_some_iff.1 hj).1; have h2 := hlen r (List.mem_of_getElem? hi'); omega
        have := mul_lt_of (k := i.size) (List.getElem?_eq_some_iff.1 hi').1
        have hlt : i' * i.size + j < rows.length * i.size := by omega
        exact ⟨u, by simp [hlt, hu], hd⟩
  obtain ⟨bo, cp0, olds, rfl, hcp0, ho1, ho2, ho3⟩ := olds
  by_cases hroom : rows.length + new.length ≤ cp0
  · rcases h0 with ⟨rfl, hv⟩ | ⟨β, cp1, e', cur, hv, a5, a6, a7, a8, a9, a10, a11⟩
    · cases hv
      have hm0 : new = [] := List.eq_nil_of_length_eq_zero (by simpa using hroom)
      subst hm0
      refine ⟨_, w, g, run_app_nil ht hu hi 0 0 ad cp 0 hn1 (by simp), ?_, ?_, by simpa using hL, rfl, fun i h => h⟩
      · rw [List.append_nil, set_same hb]; exact hR
      · rw [List.append_nil, set_same hb]; exact Ext.refl _ _ _
    · cases hv
      have hsz : rows.length * i.size + new.length * i.size ≤ cur.size := by rw [a8, ← Nat.add_mul]; exact Nat.mul_le_mul_right _ hroom
      have hrun := run_app_room (ty := ty) ht hu hi e' β cp0 new.length ad cp rows.length hn1 hroom a7 (by omega) hn3
      have hlt : (cur.toList.take (rows.length * i.size)).length = rows.length * i.size := by simp; omega
      have get : ∀ q, ((cur.toList.take (rows.length * i.size) ++ news.toList ++ cur.toList.drop (rows.length * i.size + news.toList.length)).toArray)[q]? =
          if q < rows.length * i.size then cur[q]? else if q < rows.length * i.size + new.length * i.size then news[q - rows.length * i.size]? else cur[q]? := by
        intro q
        simp only [List.getElem?_toArray, List.append_assoc]
        rw [List.getElem?_append, hlt]
        split
        · next h1 => rw [List.getElem?_take_of_lt h1]; simp
        · next h1 =>
          rw [List.getElem?_append]
          simp only [Array.length_toList, hn2]
          split
          · next h2 => rw [if_pos (by omega)]; simp
          · next h2 =>
            rw [if_neg (by omega), List.getElem?_drop]
            simp
            congr 1; omega
      obtain ⟨r1, r2⟩ := rows_app (Φ := g.Φ) (cur' := fun q => ((cur.toList.take (rows.length * i.size) ++ news.toList ++ cur.toList.drop (rows.length * i.size + news.toList.length)).toArray)[q]?) hlen hd4 (fun i' r j x hi' hj => by
        obtain ⟨u, h1, h2⟩ := a9 i' r j x hi' hj
        have hjk : j < i.size := by have h1 := (List.getElem?_eq_some_iff.1 hj).1; have h2 := hlen r (List.mem_of_getElem? hi'); omega
        have := mul_lt_of (k := i.size) (List.getElem?_eq_some_iff.1 hi').1
        refine ⟨u, ?_, h2⟩
        show _ = _
        rw [get, if_pos (by omega)]; exact h1) (fun i' r j x hi' hj => by
        obtain ⟨u, h1, h2⟩ := hn5 i' r j x hi' hj
        have hjk : j < i.size := by have h1 := (List.getElem?_eq_some_iff.1 hj).1; have h2 := hd4 r (List.mem_of_getElem? hi'); omega
        have := mul_lt_of (k := i.size) (List.getElem?_eq_some_iff.1 hi').1
        refine ⟨u, ?_, h2⟩
        show _ = _
        rw [get, if_neg (by omega), if_pos (by omega), Nat.add_sub_cancel_left]; exact h1)
      obtain ⟨g', q1, q2, q3, q4⟩ := hR.grewIn hb hL (new := new) (cur' := (cur.toList.take (rows.length * i.size) ++ news.toList ++ cur.toList.drop (rows.length * i.size + news.toList.length)).toArray) a7 hpos (by simpa using hroom) a6 a8
        (by simp only [List.size_toArray, List.length_append, hlt, List.length_drop, Array.length_toList, hn2]; omega) r1 (fun off ho => by rw [get, if_pos ho]) a10 a11 r2
      exact ⟨_, _, g', hrun, q1, q2, by rw [q3]; simp, rfl, q4⟩
  · have hge := grownCap_ge w (rows.length + new.length) cp0 e
    have hcm := grownCap_le_maxLen w (rows.length + new.length) cp0 e h63
    have hrun := run_app_grow (ty := ty) ht hu hi hz bo cp0 new.length ad cp rows.length hd1 ho1 hroom (by omega) (growslice_fits (by omega) hbytes)
    obtain ⟨r1, r2, r3⟩ := grown_cells (rows := rows) (olds := olds) (Φ := g.Φ) (need := rows.length + new.length) (by_ := 0) (e := e) hzs hlen hd4 ho2 hd2 rfl hge ho3 hd5
    obtain ⟨g', q1, q2, q3, q4⟩ := hR.drew.moved hb hL (cur := olds ++ newd ++ Builtin.zeroCells z.cells (grownCap w (rows.length + new.length) cp0 e - (rows.length + new.length))) (e := e) (rows' := rows ++ new) hpos
      (by simpa using hge) hcm r2 r1 r3 (by simp [slen]; omega)
    exact ⟨_, _, g', hrun, q1, (Ext.drew H g w).trans q2, by rw [q3]; simp, rfl, q4⟩

theorem m_append {k by_ : Nat} {d x : Opd} {r : Option Nat} {fz : Bool} (hm : matchOp P o.op (.append k by_ d x r fz) = true) (hR : Rel MC P B0 H g w) (hS : SlotsOk g s a.tmps) (hF : Free H g n0 (ranksOf (.append k by_ d x r fz)))
    (h : prim c n0 s H (.append k by_ d x r fz) = some (v, H')) : Does MC P B0 a o ((ranksOf (.append k by_ d x r fz)).map (n0 + ·)) H g w v H' := by
  simp only [matchOp] at hm
  split at hm
  · next args argTypes hop =>
    split at hm
    · next d' x' t u hargs htys =>
      simp only [Bool.and_eq_true] at hm
      obtain ⟨⟨h1, h2⟩, h3⟩ := hm
      split at h1
      · next e e2 hsl hsl2 =>
        simp only [Bool.and_eq_true] at h1
        obtain ⟨⟨⟨c1, c2⟩, c3⟩, c4⟩ := h1
        have ht := sliceOf_spec hsl
        have hu := sliceOf_spec hsl2
        have hk : P.cellsOf e = k := by simpa using c1
        have hby : P.bytesOf e = by_ := by simpa using c2
        have hpos : 0 < k := by simpa using c3
        split at c4
        · next z hz0 =>
          have hzs : z.cells.size = k := by simpa using c4
          cases hi : P.info? e with
          | none => simp [hi] at hz0
          | some i =>
          have hz : i.zero = some z := by simpa [hi] using hz0
          have his : i.size = k := by rw [← hk]; simp [Program.cellsOf, hi]
          have hib : i.bytes = by_ := by rw [← hby]; simp [Program.bytesOf, hi]
          have hargs' : args = #[d', x'] := by apply Array.ext'; simpa using hargs
          have htys' : argTypes = #[t, u] := by apply Array.ext'; simpa using htys
          subst hargs' htys'
          have hex : ∀ y w', (Builtin.append_ #[t, u] o.type #[a.eval d', a.eval x']).run P w = .ok y w' → (execOp a.eval o).run P w = .ok (.value y) w' := by
            intro y w' hy
            unfold execOp
            simp only [hop, resolve, invoke, builtin, Sem.run_bind, Sem.run_pure, Result.andThen_ok, List.map_toArray, List.map_cons, List.map_nil, hy]
          simp only [prim] at h
          split at h
          · next dv xv hd hx =>
            split at h
            · next new k' hrow hko =>
              split at h
              · next hcond =>
                simp only [Bool.and_eq_true] at hcond
                have hkk : k = k' := Nat.eq_of_beq_eq_true hcond.1
                subst hkk
                have hfr := hcond.2
                obtain ⟨ad, cp, hux, hread⟩ := readRows hR (ev_V hS h3 hx) hrow hko hfr hpos
                obtain ⟨news, hn1, hn2, hn3, hn4, hn5⟩ := hread new.length (Nat.le_refl _)
                obtain ⟨ad', cp', hux', hread'⟩ := readRows hR.drew (ev_V hS h3 hx) hrow hko hfr hpos
                rw [hux] at hux'; cases hux'
                obtain ⟨newd, hd1, hd2, hd3, hd4, hd5⟩ := hread' new.length (Nat.le_refl _)
                have hn5' : ∀ (i : Nat) (r : List AV) (j : Nat) (x : AV), new[i]? = some r → r[j]? = some x → ∃ u, news[i * k + j]? = some u ∧ Den g.Φ x u :=
                  fun i r j x h1 h2 => hn5 i r j x (List.getElem?_eq_some_iff.1 h1).1 h1 h2
                have hd5' : ∀ (i : Nat) (r : List AV) (j : Nat) (x : AV), new[i]? = some r → r[j]? = some x → ∃ u, newd[i * k + j]? = some u ∧ Den g.Φ x u :=
                  fun i r j x h1 h2 => hd5 i r j x (List.getElem?_eq_some_iff.1 h1).1 h1 h2
                have hVd := ev_V hS h2 hd
                rw [hux] at hex hn1 hd1
                split at h
                · -- nil
                  next kd =>
                  have hud : a.eval d' = .slice none 0 0 := by
                    generalize a.eval d' = ud at hVd
                    cases hVd with
                    | den _ _ hd => cases hd; rfl
                  rw [hud] at hex
                  split at h
                  · next hbnd =>
                    by_cases hm0 : new.length = 0
                    · have hnew : new = [] := List.eq_nil_of_length_eq_zero hm0
                      subst hnew
                      have hrun := hex _ _ (run_app_nil (ty := o.type) ht hu hi 0 0 ad cp 0 (by rw [his]; exact hn1) (Nat.le_refl _))
                      split at h
                      · simp at h; obtain ⟨rfl, rfl⟩ := h
                        exact ⟨_, _, g, .inl hrun, .den _ _ (.seq0 _ _ _), hR, Ext.refl _ _ _, rfl, fun i _ h => h⟩
                      · next r' =>
                        simp at h; obtain ⟨rfl, rfl⟩ := h
                        obtain ⟨hi0, hnn⟩ := hF r' (by simp [ranksOf])
                        have := hR.bare hi0 hnn (o' := .arr k false []) (gb' := .arr k (.slice none 0 0)) rfl ⟨rfl, hpos, by simp, .inl ⟨rfl, rfl⟩⟩
                        refine ⟨_, _, _, .inl hrun, ?_, this.1, this.2, by simp [hset], nn_upd (by simp [ranksOf]) _ _⟩
                        exact .asl _ _ k (.slice none 0 0) _ (by simp [updL]) (by simp [slen]) rfl (fun _ => rfl)
                      · cases h
                    · have h63 : new.length ≤ maxLen := by have := hbnd.2; simp only [maxLen]; omega
                      have hb := hbnd.1
                      have hge := grownCap_ge w (0 + new.length) 0 e
                      have hcm := grownCap_le_maxLen w (0 + new.length) 0 e (by omega)
                      have hrun := hex _ _ (run_app_grow (ty := o.type) ht hu hi hz none 0 new.length ad cp 0 (news := newd) (olds := #[]) (by rw [his]; exact hd1) (by simp [Builtin.firstCells]) (by omega) (by omega)
                        (growslice_fits (by omega) (by rw [hib]; have : (0 + new.length) * by_ = new.length * by_ := by rw [Nat.zero_add]
                                                       omega)))
                      simp only [Nat.zero_add] at hrun hge hcm
                      obtain ⟨r1, r2, r3⟩ := grown_cells (rows := []) (olds := #[]) (Φ := g.Φ) (need := new.length) (by_ := by_) (e := e) hzs (by simp) hd4 (by simp) hd2 (by simp) hge (by simp) hd5'
                      generalize hcur : (#[] ++ newd ++ Builtin.zeroCells z.cells (grownCap w new.length 0 e - new.length)) = cur at hrun r2 r3
                      generalize grownCap w new.length 0 e = cap at hrun hge hcm r2
                      simp only [List.nil_append] at r1 r3
                      split at h
                      · simp at h; obtain ⟨rfl, rfl⟩ := h
                        obtain ⟨q1, q2⟩ := hR.drew.frozen cur e
                        refine ⟨_, _, _, .inl hrun, ?_, q1, (Ext.drew H g w).trans q2, rfl, fun i _ h => h⟩
                        refine .den _ _ ?_
                        refine .seq _ _ _ _ (fun i j => (cur[i * k + j]?).getD undef) rfl hge r1 (fun i r j x hi hj => ?_) (fun i r j x hi hj => ?_)
                        all_goals obtain ⟨u, hu, hV⟩ := r3 i r j x hi hj
                        · simp [hu]
                        · simp only [hu, Option.getD_some]
                          exact hV.mono q2.le.Φ
                      · next r' =>
                        simp at h; obtain ⟨rfl, rfl⟩ := h
                        obtain ⟨hi0, hnn⟩ := hF r' (by simp [ranksOf])
                        have := hR.drew.alloc hi0 hnn (.cells cur e) (o' := .arr k false new) (gb' := .arr k (.slice (some ⟨w.heap.size, 0, none⟩) new.length cap)) rfl
                          ⟨rfl, hpos, r1, .inr ⟨w.heap.size, cap, e, cur, rfl, hge, hcm, heap_alloc_new w.drew _, r2, r3, fun _ off => hR.phi_none (Nat.le_refl _), by simp⟩⟩
                        refine ⟨_, _, _, .inl hrun, ?_, this.1, (Ext.drew H g w).trans this.2, by simp [hset], nn_upd (by simp [ranksOf]) _ _⟩
                        exact .asl _ _ k (.slice (some ⟨w.heap.size, 0, none⟩) new.length cap) _ (by simp [updL]) (by simp [slen]) rfl (fun _ => rfl)
                      · cases h
                  · cases h
                · -- an array of one's own
                  next b n =>
                  split at h
                  · next kk p rows hc =>
                    split at h
                    · next hbnd =>
                      simp only [Bool.and_eq_true, decide_eq_true_eq] at hbnd
                      obtain ⟨⟨⟨d1, d2⟩, d3⟩, d4⟩ := hbnd
                      have d1' : rows.length = n := Nat.eq_of_beq_eq_true d1
                      have d2' : kk = k := Nat.eq_of_beq_eq_true d2
                      subst d1' d2'
                      obtain ⟨v0, hL, hbox⟩ := hR.arrW hc
                      have hud := arr_alias hVd hL (arr_slen hbox)
                      rw [hud] at hex
                      obtain ⟨x, w', g', q1, q2, q3, q4, q5, q6⟩ := app_core (ty := o.type) hR ht hu hi hz his hpos hzs (harrW_get hc) hL hbox hn1 hn2 hn3 hn5' hd1 hd2 hd4 hd5' (by have : rows.length + new.length ≤ 1099511627776 := d4; simp only [maxLen]; omega) (by rw [hib]; have : (rows.length + new.length) * by_ ≤ 1099511627776 := d3; exact Nat.le_trans this (by decide))
                      have hrun := hex _ _ q1
                      have hbx := q2.box b _ (by simp [(List.getElem?_eq_some_iff.1 (harrW_get hc)).1] : (H.set b (.arr kk p (rows ++ new)))[b]? = some (.arr kk p (rows ++ new)))
                      rw [q4] at hbx
                      split at h
                      · next hfz =>
                        simp at h; obtain ⟨rfl, rfl⟩ := h
                        have done : ∀ (g2 : Ghost) (H2 : AHeap), Rel MC P B0 H2 g2 w' → Ext (H.set b (.arr kk p (rows ++ new))) g' w' H2 g2 w' → Den g2.Φ (.seq kk (rows ++ new)) x → g2.L = g'.L → (∃ ob, H2[b]? = some ob ∧ ob.isW = true) → H2.set b .dead = H.set b .dead →
                            Does MC P B0 a o ((ranksOf (.append kk by_ d ‹Opd› r fz)).map (n0 + ·)) H g w (.seq kk (rows ++ new)) (hset H b .dead) := by
                          intro g2 H2 e1 e2 e3 e4 e5 e6
                          obtain ⟨f1, f2⟩ := e1.kill e5
                          rw [e6] at f1 f2
                          exact ⟨x, w', g2, .inl hrun, .den _ _ e3, f1, (q3.trans e2).trans f2, by simp [hset], fun i _ h => by rw [e4]; exact q6 i h⟩
                        have hlt := (List.getElem?_eq_some_iff.1 (harrW_get hc)).1
                        cases p with
                        | true => exact done g' _ q2 (Ext.refl _ _ _) (seq_of_arr hbx) rfl ⟨.arr kk true (rows ++ new), by simp [hlt], rfl⟩ (by rw [List.set_set])
                        | false =>
                          obtain ⟨g2, e1, e2, e3, e4⟩ := q2.publish (by simp [hlt] : (H.set b (.arr kk false (rows ++ new)))[b]? = some (.arr kk false (rows ++ new))) q4
                          exact done g2 _ e1 e2 e4 e3 ⟨.arr kk true (rows ++ new), by simp [hlt], rfl⟩ (by rw [List.set_set, List.set_set])
                      · simp at h; obtain ⟨rfl, rfl⟩ := h
                        have hs1 := arr_slen hbx
                        refine ⟨x, w', g', .inl hrun, ?_, q2, q3, by simp [hset], fun i _ h => q6 i h⟩
                        exact .asl _ _ kk x _ q4 (by rw [hs1]; simp) q5 (fun _ => rfl)
                    · cases h
                  · cases h
                · cases h
              · cases h
            · cases h
          · cases h
        · cases c4
      · cases h1
    · cases hm
  · cases hm
end
end Am
