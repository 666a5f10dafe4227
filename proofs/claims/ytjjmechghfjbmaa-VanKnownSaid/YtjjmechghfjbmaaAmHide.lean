/- Boxes are hidden, laid back, reserved, cut off. -/
import Derived.Test.YtjjmechghfjbmaaAmPrim
set_option linter.unusedVariables false
set_option linter.unusedSimpArgs false
set_option linter.unnecessarySimpa false
namespace Am
open Go

theorem lt_of_live {g : Ghost} {N b : Nat} (hN : ∀ i, N ≤ i → g.L i = .none) (h : g.L b ≠ .none) : b < N := by
  rcases Nat.lt_or_ge b N with h1 | h1
  · exact h1
  · exact absurd (hN b h1) h

/-- A value names boxes that are there. -/
theorem V.bd {g : Ghost} {N : Nat} (hN : ∀ i, N ≤ i → g.L i = .none) {x : AV} {v : Value} (h : V g x v) : x.bd N = true := by
  have nlt : ∀ {b : Nat}, g.L b ≠ .none → Nat.blt b N = true := fun {b} hb => by
    have := lt_of_live hN hb
    simpa [Nat.blt_eq] using this
  have lst : ∀ {l : List AV}, (∀ (j : Nat) x, l[j]? = some x → x.bd N = true) → bdL N l = true := fun {l} hl => by
    rw [bdL_iff]; intro x hx
    obtain ⟨j, hj, rfl⟩ := List.mem_iff_getElem.1 hx
    exact hl j _ (List.getElem?_eq_getElem hj)
  induction h with
  | den x v h => cases h <;> simp [AV.bd]
  | ptr b o β e h => simpa only [AV.bd] using nlt (by rw [h]; simp)
  | itr b β h => simpa only [AV.bd] using nlt (by rw [h]; simp)
  | eptr b n i o k v p h hle hp => simpa only [AV.bd] using nlt (by rw [h]; simp)
  | cptr cs a vs hs h1 h2 h3 ih => simpa only [AV.bd] using lst ih
  | asl b n k v0 v h hle h1 hn => simpa only [AV.bd] using nlt (by rw [h]; simp)
  | csl b o k n β e h => simpa only [AV.bd] using nlt (by rw [h]; simp)
  | mp b β h => simpa only [AV.bd] using nlt (by rw [h]; simp)
  | fn f f' a c a' c' hf l1 l2 h1 h2 ih1 ih2 =>
    cases f with
    | yield l =>
      obtain ⟨β, hl, _⟩ := hf
      simp only [AV.bd, Bool.and_eq_true]
      exact ⟨⟨nlt (by rw [hl]; simp), lst ih1⟩, lst ih2⟩
    | _ => simp only [AV.bd, Bool.and_eq_true]; exact ⟨lst ih1, lst ih2⟩
  | xseq k rows a c vs hs hcap hlen h1 h2 h3 ih =>
    simp only [AV.bd, bdR_iff]
    intro r hr x hx
    obtain ⟨i, hi, rfl⟩ := List.mem_iff_getElem.1 hr
    obtain ⟨j, hj, rfl⟩ := List.mem_iff_getElem.1 hx
    exact ih i _ j _ (List.getElem?_eq_getElem hi) (List.getElem?_eq_getElem hj)
  | agg cs vs hl h h1 ih => simpa only [AV.bd] using lst ih
  | tup cs vs hl h ih => simpa only [AV.bd] using lst ih

/-- The boxes from N on are forgotten. -/
def cutG (N : Nat) (g : Ghost) : Ghost := ⟨fun i => if i < N then g.L i else .none, g.Φ⟩

theorem cutG_L {N : Nat} {g : Ghost} {i : Nat} (h : i < N) : (cutG N g).L i = g.L i := by simp [cutG, h]
theorem cutG_none {N : Nat} {g : Ghost} {i : Nat} (h : N ≤ i) : (cutG N g).L i = .none := by simp [cutG]; omega

theorem V.cut {g : Ghost} {N : Nat} {x : AV} {v : Value} (h : V g x v) (hb : x.bd N = true) : V (cutG N g) x v := by
  have cl : ∀ {b : Nat} {q : GB}, Nat.blt b N = true → g.L b = q → (cutG N g).L b = q := fun {b q} hlt hq => by
    rw [Nat.blt_eq] at hlt
    rw [cutG_L hlt, hq]
  have lst : ∀ {l : List AV}, bdL N l = true → ∀ (j : Nat) x, l[j]? = some x → x.bd N = true := fun {l} hl j x hj => by
    rw [bdL_iff] at hl
    exact hl x (List.mem_of_getElem? hj)
  induction h with
  | den x v h => exact .den _ _ h
  | ptr b o β e h => exact .ptr b o β e (cl (by simpa only [AV.bd] using hb) h)
  | itr b β h => exact .itr b β (cl (by simpa only [AV.bd] using hb) h)
  | eptr b n i o k v p h hle hp => exact .eptr b n i o k v p (cl (by simpa only [AV.bd] using hb) h) hle hp
  | cptr cs a vs hs h1 h2 h3 ih => exact .cptr cs a vs hs h1 (fun j x hj => ih j x hj (lst (by simpa only [AV.bd] using hb) j x hj)) h3
  | asl b n k v0 v h hle h1 hn => exact .asl b n k v0 v (cl (by simpa only [AV.bd] using hb) h) hle h1 hn
  | csl b o k n β e h => exact .csl b o k n β e (cl (by simpa only [AV.bd] using hb) h)
  | mp b β h => exact .mp b β (cl (by simpa only [AV.bd] using hb) h)
  | fn f f' a c a' c' hf l1 l2 h1 h2 ih1 ih2 =>
    have hb' : FnRel (cutG N g) f f' ∧ bdL N a = true ∧ bdL N c = true := by
      cases f with
      | yield l =>
        obtain ⟨β, hl, hf'⟩ := hf
        simp only [AV.bd, Bool.and_eq_true] at hb
        exact ⟨⟨β, cl hb.1.1 hl, hf'⟩, hb.1.2, hb.2⟩
      | func i => simp only [AV.bd, Bool.and_eq_true] at hb; exact ⟨hf, hb.1, hb.2⟩
      | _ => exact hf.elim
    exact .fn f f' a c a' c' hb'.1 l1 l2 (fun j x hj => ih1 j x hj (lst hb'.2.1 j x hj)) (fun j x hj => ih2 j x hj (lst hb'.2.2 j x hj))
  | xseq k rows a c vs hs hcap hlen h1 h2 h3 ih =>
    simp only [AV.bd, bdR_iff] at hb
    exact .xseq k rows a c vs hs hcap hlen h1 (fun i r j x hi hj => ih i r j x hi hj (hb r (List.mem_of_getElem? hi) x (List.mem_of_getElem? hj))) h3
  | agg cs vs hl h h1 ih => exact .agg cs vs hl (fun j x hj => ih j x hj (lst (by simpa only [AV.bd] using hb) j x hj)) h1
  | tup cs vs hl h ih => exact .tup cs vs hl (fun j x hj => ih j x hj (lst (by simpa only [AV.bd] using hb) j x hj))

section
variable {MC : Nat → Code → ACode → Prop} {P : Program} {B0 : Nat}

theorem SlotsOk.cut {g : Ghost} {N : Nat} {s : Slots} {tmps : Array Value} (h : SlotsOk g s tmps) (hb : ∀ t v, sget s t = some v → v.bd N = true) : SlotsOk (cutG N g) s tmps :=
  fun t v hv => let ⟨x, hx, hV⟩ := h t v hv; ⟨x, hx, hV.cut (hb t v hv)⟩

theorem BoxOk.cut {g : Ghost} {w : World} {N : Nat} {o : AO} {gb : GB} (h : BoxOk MC P g w o gb) (hb : o.bdP N) : BoxOk MC P (cutG N g) w o gb := by
  cases o with
  | dead => exact trivial
  | cells cs =>
    cases gb <;> try exact h.elim
    obtain ⟨c, h1, h2, h3, h4⟩ := h
    simp only [AO.bdP, bdL_iff] at hb
    exact ⟨c, h1, h2, fun j x hj => let ⟨v, hv, hV, ho⟩ := h3 j x hj; ⟨v, hv, hV.cut (hb x (List.mem_of_getElem? hj)), ho⟩, h4⟩
  | arr k pub rows => cases gb <;> exact h
  | map es =>
    cases gb <;> try exact h.elim
    obtain ⟨en, clock, h1, h2, h3⟩ := h
    simp only [AO.bdP, bdE_iff] at hb
    exact ⟨en, clock, h1, h2, fun i e hi => let ⟨m, hm, a, b⟩ := h3 i e hi; ⟨m, hm, a.cut (hb e (List.mem_of_getElem? hi)).1, b.cut (hb e (List.mem_of_getElem? hi)).2⟩⟩
  | iter s pos => cases gb <;> exact h
  | loop f s ps assign body busy pend =>
    cases gb <;> try exact h.elim
    obtain ⟨r, h1, h2, h3, h4, h5, h6⟩ := h
    exact ⟨r, h1, h2, h3, h4, h5.cut hb, h6⟩
  | ro o => cases gb <;> exact h.elim

/-- What an object that is there names is there. -/
theorem BoxOk.bd {g : Ghost} {w : World} {N : Nat} (hN : ∀ i, N ≤ i → g.L i = .none) {o : AO} {gb : GB} (h : BoxOk MC P g w o gb) : o.bdP N := by
  cases o with
  | dead => exact trivial
  | cells cs =>
    cases gb <;> try exact h.elim
    obtain ⟨c, h1, h2, h3, h4⟩ := h
    simp only [AO.bdP, bdL_iff]
    intro x hx
    obtain ⟨j, hj, rfl⟩ := List.mem_iff_getElem.1 hx
    obtain ⟨v, _, hV, _⟩ := h3 j _ (List.getElem?_eq_getElem hj)
    exact hV.bd hN
  | arr k pub rows => exact trivial
  | map es =>
    cases gb <;> try exact h.elim
    obtain ⟨en, clock, h1, h2, h3⟩ := h
    simp only [AO.bdP, bdE_iff]
    intro e he
    obtain ⟨j, hj, rfl⟩ := List.mem_iff_getElem.1 he
    obtain ⟨m, _, h4, h5⟩ := h3 j _ (List.getElem?_eq_getElem hj)
    exact ⟨h4.bd hN, h5.bd hN⟩
  | iter s pos => exact trivial
  | loop f s ps assign body busy pend =>
    cases gb <;> try exact h.elim
    obtain ⟨r, h1, h2, h3, h4, h5, h6⟩ := h
    intro t v hv
    obtain ⟨x, _, hV⟩ := h5 t v hv
    exact hV.bd hN
  | ro o => cases gb <;> exact h.elim

theorem bdP_rd {o : AO} {N : Nat} (h : o.rd.bdP N) : o.bdP N := by cases o <;> exact h
theorem rd_bdP {o : AO} {N : Nat} (h : o.bdP N) : o.rd.bdP N := by cases o <;> exact h

theorem Rel.bd {H : AHeap} {g : Ghost} {w : World} (hR : Rel MC P B0 H g w) {i : Nat} {o : AO} (h : H[i]? = some o) : o.bdP H.length :=
  bdP_rd ((hR.box i o h).bd hR.nolive)

/-- The scope that begins now. -/
theorem ScOk.enter {c : Sc} {H : AHeap} {g : Ghost} {w : World} (h : ScOk c H) (hR : Rel MC P B0 H g w) : ScOk ⟨H.length, c.cur :: c.outer⟩ H where
  cur := Nat.le_refl _
  out := fun B hB => by
    rcases List.mem_cons.1 hB with rfl | hB
    · exact h.cur
    · exact Nat.le_trans (h.out B hB) h.cur
  bd := fun B hB i hi o ho => by
    rcases List.mem_cons.1 hB with rfl | hB
    · exact hR.bd ho
    · exact h.bd B hB i hi o ho
theorem ScOk.leave {c : Sc} {B : Nat} {H : AHeap} (h : ScOk ⟨B, c.cur :: c.outer⟩ H) (hout : ∀ D ∈ c.outer, D ≤ c.cur) : ScOk c H where
  cur := Nat.le_trans (h.out c.cur (by simp)) h.cur
  out := hout
  bd := fun D hD => h.bd D (by simp at hD ⊢; exact .inr hD)
theorem ScOk.take {c : Sc} {H : AHeap} (h : ScOk c H) {N : Nat} (hN : c.cur ≤ N) : ScOk c (H.take N) where
  cur := by have := h.cur; simp; omega
  out := h.out
  bd := fun B hB i hi o ho => h.bd B hB i hi o (by
    rw [List.getElem?_take] at ho
    split at ho
    · exact ho
    · cases ho)
theorem ScOk.app {c : Sc} {H : AHeap} (h : ScOk c H) (K : AHeap) : ScOk c (H ++ K) where
  cur := by have := h.cur; simp; omega
  out := h.out
  bd := fun B hB i hi o ho => by
    have h1 : B ≤ c.cur := by rcases List.mem_cons.1 hB with rfl | hB; exact Nat.le_refl _; exact h.out B hB
    have h2 := h.cur
    rw [List.getElem?_append_left (by omega)] at ho
    exact h.bd B hB i hi o ho

/-- Boxes that are not born yet stay so. -/
def Unborn (H : AHeap) (g g' : Ghost) : Prop := ∀ i, i < H.length → g.L i = .none → g'.L i = .none
theorem Unborn.refl (H : AHeap) (g : Ghost) : Unborn H g g := fun _ _ h => h
theorem Unborn.trans {H H1 : AHeap} {g g1 g2 : Ghost} (h : Unborn H g g1) (k : Unborn H1 g1 g2) (hl : H.length ≤ H1.length) : Unborn H g g2 :=
  fun i hi hn => k i (by omega) (h i hi hn)

/-- **Memory is laid back**: H1 is H with some boxes that may not be written; from there something is done; then boxes that could not be written are as they were, and boxes from N on are forgotten. -/
theorem Rel.back {H H1 H2 H3 : AHeap} {g g2 : Ghost} {w w2 : World} (hR : Rel MC P B0 H g w) (hl : H1.length = H.length)
    (h1 : ∀ (i : Nat) (o1 : AO), H1[i]? = some o1 → H[i]? = some o1 ∨ o1.isW = false)
    (hE : Ext H1 g w H2 g2 w2) (hR2 : Rel MC P B0 H2 g2 w2) (hN : H.length ≤ H3.length) (hN2 : H3.length ≤ H2.length)
    (h3 : ∀ (i : Nat) (o3 : AO), H3[i]? = some o3 → (H2[i]? = some o3 ∧ o3.bdP H3.length ∧ (H1[i]? = H[i]? ∨ H.length ≤ i)) ∨ (H[i]? = some o3 ∧ ∃ o1, H1[i]? = some o1 ∧ o1.isW = false)) :
    Rel MC P B0 H3 (cutG H3.length g2) w2 ∧ Ext H g w H3 (cutG H3.length g2) w2 := by
  have hsame : ∀ i o, H[i]? = some o → (∃ o1, H1[i]? = some o1 ∧ o1.isW = false) → g.L i = .none ∨ (g2.L i = g.L i ∧ ∀ β, (g.L i).blk = some β → w2.heap[β]? = w.heap[β]? ∧ ∀ off, g2.Φ β off = g.Φ β off) := by
    intro i o ho ⟨o1, ho1, hw1⟩
    by_cases hn : g.L i = .none
    · exact .inl hn
    · refine .inr ⟨hE.keep i o1 ho1 hw1 hn, fun β hb => ?_⟩
      obtain ⟨_, hlt⟩ := hR.base i β hb
      refine hE.frame β hlt (fun j oj hj hw hbj => ?_)
      have := hR.inj i j β hb hbj
      subst this
      rw [ho1] at hj; cases hj; rw [hw1] at hw; cases hw
  have hle : g.le g2 := hE.le
  refine ⟨⟨hR2.phi, ?_, ?_, ?_, ?_, hR2.b0⟩, ⟨hN, hE.os, hE.tape, hE.output, hE.size, ⟨?_, hE.le.Φ⟩, ?_, ?_, ?_, ?_⟩⟩
  · intro i β hb
    simp only [cutG] at hb
    split at hb
    · exact hR2.base i β hb
    · simp [GB.blk] at hb
  · intro i j β hi hj
    simp only [cutG] at hi hj
    split at hi <;> split at hj
    · exact hR2.inj i j β hi hj
    all_goals simp [GB.blk] at hi hj
  · intro i o3 ho
    have hi := (List.getElem?_eq_some_iff.1 ho).1
    rw [cutG_L hi]
    rcases h3 i o3 ho with ⟨h4, h5, _⟩ | ⟨h4, h5⟩
    · exact (hR2.box i o3 h4).cut (rd_bdP h5)
    · rcases hsame i o3 h4 h5 with h6 | ⟨h6, h7⟩
      · have hb := hR.box i o3 h4
        rw [h6] at hb
        generalize hq : o3.rd = q at hb ⊢
        cases q <;> first | exact hb.elim | exact trivial
      · rw [h6]
        have hb := (hR.box i o3 h4).mono hle h7
        exact hb.cut (rd_bdP (by
          have := hR.bd h4
          have hb3 := (hR.box i o3 h4)
          exact bdP_rd (hb3.bd (N := H3.length) (fun j hj => hR.nolive j (by omega)))))
  · intro i hi; exact cutG_none hi
  · intro i
    by_cases hi : i < H3.length
    · rw [cutG_L hi]; exact hle.L i
    · rw [cutG_none (by omega), hR.nolive i (by omega)]; trivial
  · intro i β hb
    simp only [cutG] at hb
    split at hb
    · rcases hE.blk i β hb with h4 | h4 | ⟨j, o, hj, hw, hbj⟩
      · exact .inl h4
      · exact .inr (.inl h4)
      · rcases h1 j o hj with h5 | h5
        · exact .inr (.inr ⟨j, o, h5, hw, hbj⟩)
        · rw [hw] at h5; cases h5
    · simp [GB.blk] at hb
  · intro i o ho hw hn
    have hi := (List.getElem?_eq_some_iff.1 ho).1
    rw [cutG_L (by omega)]
    have hi1 : i < H1.length := by omega
    have ho1 := List.getElem?_eq_getElem hi1
    refine hE.keep i _ ho1 ?_ hn
    rcases h1 i _ ho1 with h4 | h4
    · rw [ho] at h4; cases h4; exact hw
    · exact h4
  · intro i o' ho' hw'
    rcases h3 i o' ho' with ⟨h4, h5, h6⟩ | ⟨h4, h5⟩
    · rcases hE.wit i o' h4 hw' with h7 | ⟨o1, h7, h8⟩
      · exact .inl h7
      · rcases h6 with h6 | h6
        · exact .inr ⟨o1, h6 ▸ h7, h8⟩
        · have := (List.getElem?_eq_some_iff.1 h7).1; omega
    · exact .inr ⟨o', h4, hw'⟩
  · intro β hβ hn
    refine hE.frame β hβ (fun i o hi hw hb => ?_)
    rcases h1 i o hi with h4 | h4
    · exact hn i o h4 hw hb
    · rw [hw] at h4; cases h4

theorem cutG_ge {g : Ghost} {N : Nat} (h : ∀ i, N ≤ i → g.L i = .none) : cutG N g = g := by
  cases g with
  | mk L Φ =>
    simp only [cutG, Ghost.mk.injEq, and_true]
    funext i
    split
    · rfl
    · exact (h i (by omega)).symm

/-! ### hiding -/
theorem hide_len (H : AHeap) : ∀ l, (hide H l).length = H.length
  | [] => rfl
  | b :: l => by simp [hide, hset, hide_len H l]
theorem hide_get (H : AHeap) (i : Nat) : ∀ l, (hide H l)[i]? = if i ∈ l then (H[i]?).map (fun _ => AO.dead) else H[i]?
  | [] => by simp [hide]
  | b :: l => by
    simp only [hide, hset, List.getElem?_set, hide_len, hide_get H i l, List.mem_cons]
    by_cases e : b = i
    · subst e
      by_cases hb : b < H.length
      · simp [hb]
      · simp only [if_true, hb, if_false]
        have : H[b]? = none := by simp; omega
        simp [this]
    · have e' : ¬ i = b := fun h => e h.symm
      simp [e, e']
theorem unhide_len (G H : AHeap) : ∀ l, (unhide G H l).length = H.length
  | [] => rfl
  | b :: l => by
    simp only [unhide]
    split
    · simp [hset, unhide_len G H l]
    · exact unhide_len G H l
theorem unhide_get (G H : AHeap) (hl : G.length ≤ H.length) (i : Nat) : ∀ l, (unhide G H l)[i]? = if i ∈ l ∧ i < G.length then G[i]? else H[i]?
  | [] => by simp [unhide]
  | b :: l => by
    simp only [unhide]
    split
    · next o ho =>
      have hb := (List.getElem?_eq_some_iff.1 (show G[b]? = some o from ho)).1
      simp only [hset, List.getElem?_set, unhide_len, unhide_get G H hl i l, List.mem_cons]
      by_cases e : b = i
      · subst e
        have : b < H.length := by omega
        have ho' : G[b]? = some o := ho
        simp only [if_true, this, true_or, hb, and_self, ho']
      · have e' : ¬ i = b := fun h => e h.symm
        simp [e, e']
    · next hn =>
      have hb : G.length ≤ b := by simpa [hget] using hn
      rw [unhide_get G H hl i l]
      by_cases e : i = b
      · subst e
        have : ¬ i < G.length := by omega
        simp [this]
      · simp [e]

theorem Rel.hide {H : AHeap} {g : Ghost} {w : World} (hR : Rel MC P B0 H g w) (l : List Nat) : Rel MC P B0 (Am.hide H l) g w where
  phi := hR.phi
  base := hR.base
  inj := hR.inj
  box := fun i o ho => by
    rw [hide_get] at ho
    split at ho
    · cases hq : H[i]? with
      | none => simp [hq] at ho
      | some o' => simp [hq] at ho; subst ho; exact trivial
    · exact hR.box i o ho
  nolive := fun i hi => hR.nolive i (by rwa [hide_len] at hi)
  b0 := hR.b0
theorem ScOk.hide {c : Sc} {H : AHeap} (h : ScOk c H) (l : List Nat) : ScOk c (Am.hide H l) where
  cur := by rw [hide_len]; exact h.cur
  out := h.out
  bd := fun B hB i hi o ho => by
    rw [hide_get] at ho
    split at ho
    · cases hq : H[i]? with
      | none => simp [hq] at ho
      | some o' => simp [hq] at ho; subst ho; exact trivial
    · exact h.bd B hB i hi o ho
theorem ScOk.unhide {c : Sc} {H H2 : AHeap} (h : ScOk c H) (h2 : ScOk c H2) (hl : H.length ≤ H2.length) (l : List Nat) : ScOk c (Am.unhide H H2 l) where
  cur := by rw [unhide_len]; exact h2.cur
  out := h.out
  bd := fun B hB i hi o ho => by
    rw [unhide_get _ _ hl] at ho
    split at ho
    · exact h.bd B hB i hi o ho
    · exact h2.bd B hB i hi o ho

/-- What is done where boxes are hidden, with those laid back. -/
theorem Rel.unhide {H H2 : AHeap} {g g2 : Ghost} {w w2 : World} (hR : Rel MC P B0 H g w) (l : List Nat) (hE : Ext (Am.hide H l) g w H2 g2 w2) (hR2 : Rel MC P B0 H2 g2 w2) :
    Rel MC P B0 (Am.unhide H H2 l) g2 w2 ∧ Ext H g w (Am.unhide H H2 l) g2 w2 := by
  have hlen : H.length ≤ H2.length := by have := hE.len; rwa [hide_len] at this
  have e : cutG (Am.unhide H H2 l).length g2 = g2 := by rw [unhide_len]; exact cutG_ge hR2.nolive
  have := hR.back (H1 := Am.hide H l) (H3 := Am.unhide H H2 l) (hide_len _ _) ?_ hE hR2 (by rw [unhide_len]; exact hlen) (by rw [unhide_len]; exact Nat.le_refl _) ?_
  · rw [e] at this; exact this
  · intro i o1 h1
    rw [hide_get] at h1
    split at h1
    · cases hq : H[i]? with
      | none => simp [hq] at h1
      | some o' => simp [hq] at h1; subst h1; exact .inr rfl
    · exact .inl h1
  · intro i o3 h3
    rw [unhide_get _ _ hlen] at h3
    split at h3
    · next hi =>
      right
      exact ⟨h3, .dead, by rw [hide_get, if_pos hi.1, h3]; rfl, rfl⟩
    · next hi =>
      left
      refine ⟨h3, ?_, ?_⟩
      · rw [unhide_len]; exact hR2.bd h3
      · by_cases hlt : i < H.length
        · left; rw [hide_get, if_neg (fun hm => hi ⟨hm, hlt⟩)]
        · right; omega

/-- Boxes are reserved. -/
theorem Rel.reserve {H : AHeap} {g : Ghost} {w : World} (hR : Rel MC P B0 H g w) (n : Nat) : Rel MC P B0 (H ++ List.replicate n .dead) g w ∧ Ext H g w (H ++ List.replicate n .dead) g w := by
  refine ⟨⟨hR.phi, hR.base, hR.inj, ?_, ?_, hR.b0⟩, ⟨by simp, rfl, rfl, rfl, Nat.le_refl _, Ghost.le_refl g, fun _ _ h => .inl h, fun _ _ _ _ _ => rfl, ?_, fun _ _ _ => ⟨rfl, fun _ => rfl⟩⟩⟩
  · intro i o ho
    rcases Nat.lt_or_ge i H.length with hi | hi
    · rw [List.getElem?_append_left hi] at ho; exact hR.box i o ho
    · rw [List.getElem?_append_right hi, List.getElem?_replicate] at ho
      split at ho
      · cases ho; exact trivial
      · cases ho
  · intro i hi; exact hR.nolive i (by simp at hi; omega)
  · intro i o ho hw
    rcases Nat.lt_or_ge i H.length with hi | hi
    · rw [List.getElem?_append_left hi] at ho; exact .inr ⟨o, ho, hw⟩
    · exact .inl (hR.nolive i hi)

/-- The boxes from N on go. -/
theorem Rel.take {H H2 : AHeap} {g g2 : Ghost} {w w2 : World} (hR : Rel MC P B0 H g w) (hE : Ext H g w H2 g2 w2) (hR2 : Rel MC P B0 H2 g2 w2)
    (hbd : ∀ i, i < H.length → ∀ o, H2[i]? = some o → o.bdP H.length) :
    Rel MC P B0 (H2.take H.length) (cutG H.length g2) w2 ∧ Ext H g w (H2.take H.length) (cutG H.length g2) w2 := by
  have hlen : (H2.take H.length).length = H.length := by have := hE.len; simp; omega
  have := hR.back (H1 := H) (H3 := H2.take H.length) rfl (fun i o h => .inl h) hE hR2 (by omega) (by have := hE.len; omega) ?_
  · rw [hlen] at this; exact this
  · intro i o3 h3
    rw [List.getElem?_take] at h3
    split at h3
    · next hi => exact .inl ⟨h3, by rw [hlen]; exact hbd i hi o3 h3, .inl rfl⟩
    · cases h3

theorem toRo_W (o : AO) : o.toRo.isW = false := by cases o <;> rfl
theorem toRo_rd (o : AO) : o.toRo.rd = o.rd := by cases o <;> rfl

/-- All boxes may be read alone. -/
theorem Rel.ro {H : AHeap} {g : Ghost} {w : World} (hR : Rel MC P B0 H g w) : Rel MC P B0 (H.map AO.toRo) g w where
  phi := hR.phi
  base := hR.base
  inj := hR.inj
  box := fun i o ho => by
    rw [List.getElem?_map] at ho
    cases hq : H[i]? with
    | none => simp [hq] at ho
    | some o' => simp [hq] at ho; subst ho; rw [toRo_rd]; exact hR.box i o' hq
  nolive := fun i hi => hR.nolive i (by simpa using hi)
  b0 := hR.b0
theorem ScOk.ro {c : Sc} {H : AHeap} (h : ScOk c H) : ScOk c (H.map AO.toRo) where
  cur := by simpa using h.cur
  out := h.out
  bd := fun B hB i hi o ho => by
    rw [List.getElem?_map] at ho
    cases hq : H[i]? with
    | none => simp [hq] at ho
    | some o' =>
      simp [hq] at ho; subst ho
      have := h.bd B hB i hi o' hq
      cases o' <;> exact this
theorem Rel.backRo {H H2 : AHeap} {g g2 : Ghost} {w w2 : World} (hR : Rel MC P B0 H g w) (hE : Ext (H.map AO.toRo) g w H2 g2 w2) (hR2 : Rel MC P B0 H2 g2 w2) :
    Rel MC P B0 H (cutG H.length g2) w2 ∧ Ext H g w H (cutG H.length g2) w2 := by
  refine hR.back (H1 := H.map AO.toRo) (by simp) ?_ hE hR2 (Nat.le_refl _) (by have := hE.len; simpa using this) ?_
  · intro i o1 h1
    rw [List.getElem?_map] at h1
    cases hq : H[i]? with
    | none => simp [hq] at h1
    | some o' => simp [hq] at h1; subst h1; exact .inr (toRo_W o')
  · intro i o3 h3
    exact .inr ⟨h3, o3.toRo, by rw [List.getElem?_map, h3]; rfl, toRo_W o3⟩
end
end Am
