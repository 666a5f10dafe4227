/- Orders that are drawn: operations change places. -/
import Derived.Test.YtjjmechghfjbmaaAmDraw
set_option linter.unusedVariables false
set_option linter.unusedSimpArgs false
set_option linter.unnecessarySimpa false
namespace Am
open Go

section
variable {M : Mach} {c : Sc} {n0 : Nat}

def act (M : Mach) (c : Sc) (n0 : Nat) (s : Slots) (H : AHeap) (o : AOper) : Option (AV × AHeap × Option (List Nat)) :=
  match wanted s o.guard with
  | none => none
  | some false => some (.tup [], H, none)
  | some true => match hsOf n0 s H o with
    | some hs => match core M c n0 s (hide H hs) o.op with
      | some r => if hs.isEmpty || Nat.ble H.length r.2.length then some (r.1, unhide H r.2 hs, some hs) else none
      | none => none
    | none => none

theorem oper_act {s s' : Slots} {H H' : AHeap} {hc hc' : List (Option (List Nat))} {o : AOper} : oper M c n0 s H hc o = some (s', H', hc') ↔
    ∃ v e, act M c n0 s H o = some (v, H', e) ∧ (e = none ∨ seenBy s o hc = true) ∧ s' = sput s o.dst v ∧ hc' = if writes o.op then e :: hc else hc := by
  unfold oper act
  constructor
  · intro h
    split at h
    · cases h
    · next hw =>
      simp only [Option.some.injEq, Prod.mk.injEq] at h
      obtain ⟨rfl, rfl, rfl⟩ := h
      exact ⟨.tup [], none, by simp only [hw], .inl rfl, rfl, rfl⟩
    · next hw =>
      split at h
      · next hs e1 e2 =>
        split at h
        · next r hr =>
          split at h
          case isFalse => cases h
          next hlen =>
          simp only [Option.some.injEq, Prod.mk.injEq] at h
          obtain ⟨rfl, rfl, rfl⟩ := h
          exact ⟨r.1, some hs, by simp only [hw, e1, hr, hlen, if_true], .inr e2, rfl, rfl⟩
        · cases h
      · cases h
  · rintro ⟨v, e, h, h1, rfl, rfl⟩
    split at h
    · cases h
    · next hw =>
      simp only [Option.some.injEq, Prod.mk.injEq] at h
      obtain ⟨rfl, rfl, rfl⟩ := h
      simp only [hw]
    · next hw =>
      split at h
      · next hs e1 =>
        split at h
        · next r hr =>
          split at h
          case isFalse => cases h
          next hlen =>
          simp only [Option.some.injEq, Prod.mk.injEq] at h
          obtain ⟨rfl, rfl, rfl⟩ := h
          have h2 := h1.resolve_left (by simp)
          simp only [hw, e1, h2, hr, hlen, if_true]
        · cases h
      · cases h

theorem act_congr {s s' : Slots} {H : AHeap} {o : AOper} (h : ∀ t ∈ seesOf o, sget s t = sget s' t) : act M c n0 s H o = act M c n0 s' H o := by
  simp only [seesOf, List.mem_append] at h
  have e1 : wanted s o.guard = wanted s' o.guard := wanted_congr _ (fun t ht => h t (.inl (.inr ht)))
  have e2 : ∀ K, ways s K o.hida = ways s' K o.hida := fun K => ways_congr _ (fun t ht => h t (.inr ht))
  have e3 : ∀ K, core M c n0 s K o.op = core M c n0 s' K o.op := fun K => core_congr (fun t ht => h t (.inl (.inl ht)))
  simp only [act, hsOf, e1, e2, e3]

theorem opdSlots_addr {op : AOp} {x : Opd} (h : addrOf op = some x) : ∀ t ∈ opdSlots x, t ∈ slotsOf op := by
  intro t ht
  cases op <;> simp [addrOf] at h <;> subst h <;> simp [slotsOf, ht]

theorem rbox_congr {s s' : Slots} {op : AOp} (h : ∀ t ∈ slotsOf op, sget s t = sget s' t) : rbox s op = rbox s' op := by
  unfold rbox
  cases ha : addrOf op with
  | none => rfl
  | some x => simp only [Option.bind_some, ev_congr x (fun t ht => h t (opdSlots_addr ha t ht))]

theorem seenBy_congr {s s' : Slots} {o : AOper} {hc : List (Option (List Nat))} (h : ∀ t ∈ seesOf o, sget s t = sget s' t) : seenBy s o hc = seenBy s' o hc := by
  simp only [seesOf, List.mem_append] at h
  simp only [seenBy, rbox_congr (fun t ht => h t (.inl (.inl ht)))]

/-- The same slots. -/
def Eqv (s s' : Slots) : Prop := ∀ t, sget s t = sget s' t
theorem sget_put (s : Slots) (d : Option Nat) (v : AV) (t : Nat) : sget (sput s d v) t = if d = some t then some v else sget s t := by
  cases d with
  | none => simp [sput]
  | some d =>
    simp only [sput, sget]
    cases h : Nat.beq d t with
    | true => simp [Nat.eq_of_beq_eq_true h]
    | false => simp [Nat.ne_of_beq_eq_false h]
theorem Eqv.put {s s' : Slots} (h : Eqv s s') (d : Option Nat) (v : AV) : Eqv (sput s d v) (sput s' d v) := fun t => by rw [sget_put, sget_put, h t]

theorem oper_eqv {s s1 s' : Slots} {H H' : AHeap} {hc hc' : List (Option (List Nat))} {o : AOper} (he : Eqv s s1) (h : oper M c n0 s H hc o = some (s', H', hc')) :
    ∃ s1', oper M c n0 s1 H hc o = some (s1', H', hc') ∧ Eqv s' s1' := by
  obtain ⟨v, e, h1, h2, rfl, rfl⟩ := oper_act.1 h
  exact ⟨_, oper_act.2 ⟨v, e, by rw [← act_congr (fun t _ => he t)]; exact h1, by rw [← seenBy_congr (fun t _ => he t)]; exact h2, rfl, rfl⟩, he.put _ _⟩
theorem opers_eqv : ∀ {l : List AOper} {s s1 s' : Slots} {H H' : AHeap} {hc : List (Option (List Nat))}, Eqv s s1 → opers M c n0 l s H hc = some (s', H') →
    ∃ s1', opers M c n0 l s1 H hc = some (s1', H') ∧ Eqv s' s1'
  | [], s, s1, s', H, H', hc, he, h => by
    simp only [opers, Option.some.injEq, Prod.mk.injEq] at h
    obtain ⟨rfl, rfl⟩ := h
    exact ⟨s1, rfl, he⟩
  | o :: l, s, s1, s', H, H', hc, he, h => by
    simp only [opers] at h
    split at h
    · cases h
    · next s2 H2 hc2 h2 =>
      obtain ⟨s3, q1, q2⟩ := oper_eqv he h2
      obtain ⟨s4, q3, q4⟩ := opers_eqv q2 h
      exact ⟨s4, by simp only [opers, q1, q3], q4⟩

/-- An operation that writes to boxes of its own alone. -/
theorem act_own {s : Slots} {H H' : AHeap} {o : AOper} {v : AV} {e : Option (List Nat)} (hw : writes o.op = false) (h1 : drawOne o = true) (h : act M c n0 s H o = some (v, H', e)) :
    ∃ S : List (Nat × AO), (∀ x ∈ S, ∃ r ∈ ranksOf o.op, x.1 = n0 + r) ∧ H' = setAll H S ∧
      ∀ K, Same s o.op (hide H (o.hid.map (n0 + ·))) (hide K (o.hid.map (n0 + ·))) → act M c n0 s K o = some (v, setAll K S, e) := by
  simp only [drawOne, hw, Bool.false_or, Bool.and_eq_true, List.isEmpty_iff] at h1
  obtain ⟨h1, h2⟩ := h1
  unfold act at h ⊢
  split at h
  · cases h
  · next hwt =>
    simp only [Option.some.injEq, Prod.mk.injEq] at h
    obtain ⟨rfl, rfl, rfl⟩ := h
    exact ⟨[], by simp, rfl, fun K _ => by simp only [hwt, setAll]⟩
  · next hwt =>
    have hs0 : ∀ K : AHeap, hsOf n0 s K o = some (o.hid.map (n0 + ·)) := by
      intro K; simp [hsOf, h1, ways, hw]
    simp only [hs0] at h
    split at h
    · next r hr =>
      split at h
      case isFalse => cases h
      simp only [Option.some.injEq, Prod.mk.injEq] at h
      obtain ⟨rfl, rfl, rfl⟩ := h
      obtain ⟨v, H2⟩ := r
      obtain ⟨S, q1, q2, q3⟩ := own_form hw hr
      have hd : ∀ x ∈ S, x.1 ∉ o.hid.map (n0 + ·) := by
        intro x hx hm
        obtain ⟨r, hr', he⟩ := q1 x hx
        obtain ⟨r', hr2, he2⟩ := List.mem_map.1 hm
        have : r = r' := by omega
        subst this
        simp only [apartB, List.all_eq_true, Bool.not_eq_true', List.contains_eq_mem, decide_eq_false_iff_not] at h2
        exact h2 r hr' hr2
      refine ⟨S, q1, by simp only [q2]; exact unhide_hide_setAll hd, fun K hS => ?_⟩
      have hle : Nat.ble K.length (setAll (hide K (o.hid.map (n0 + ·))) S).length = true := by rw [setAll_len, hide_len']; simp
      simp only [hwt, hs0, q3 _ hS, unhide_hide_setAll hd, hle, Bool.or_true, if_true]
    · cases h

/-- Any other one. -/
theorem act_over {s : Slots} {H : AHeap} {o : AOper} {S : List (Nat × AO)} (hw : writes o.op = true) (hS : ∀ x ∈ S, ∃ r ∈ o.hid, x.1 = n0 + r) : act M c n0 s (setAll H S) o = (act M c n0 s H o).map fun r => (r.1, setAll r.2.1 S, r.2.2) := by
  have hS0 : ∀ x ∈ S, x.1 ∈ o.hid.map (n0 + ·) := fun x hx => by
    obtain ⟨r, hr, he⟩ := hS x hx
    rw [he]; exact List.mem_map_of_mem hr
  have e0 : hsOf n0 s (setAll H S) o = hsOf n0 s H o := by
    simp only [hsOf, hide_setAll hS0, setAll_len]
  unfold act
  split
  · rfl
  · rfl
  · rw [e0]
    split
    · next hs e1 =>
      have hsub : ∀ x ∈ S, x.1 ∈ hs := by
        intro x hx
        unfold hsOf at e1
        split at e1
        · dsimp only at e1
          split at e1
          · simp only [Option.some.injEq] at e1
            subst e1
            exact List.mem_append_left _ (hS0 x hx)
          · cases e1
        · cases e1
      have hb : ∀ b ∈ hs, b < H.length := by
        unfold hsOf at e1
        split at e1
        · dsimp only at e1
          split at e1
          · next hall =>
            simp only [Option.some.injEq] at e1
            subst e1
            intro b hb
            simp only [hw, Bool.not_true, Bool.false_or] at hall
            have := List.all_eq_true.1 hall b hb
            simpa [Nat.blt_eq] using this
          · cases e1
        · cases e1
      rw [hide_setAll hsub]
      split
      · next r hr =>
        rw [setAll_len]
        split
        · simp only [Option.map_some, unhide_setAll hsub hb]
        · rfl
      · rfl
    · rfl

theorem hs_lt {s : Slots} {H : AHeap} {o : AOper} {v : AV} {H' : AHeap} {hs : List Nat} (hw : writes o.op = true) (h : act M c n0 s H o = some (v, H', some hs)) : (∀ b ∈ hs, b < H.length) ∧ ∃ H2, H' = unhide H H2 hs ∧ (hs = [] ∨ H.length ≤ H2.length) := by
  unfold act at h
  split at h
  · cases h
  · cases h
  · split at h
    · next hs' e1 =>
      split at h
      · next r hr =>
        split at h
        case isFalse => cases h
        next hle =>
        simp only [Option.some.injEq, Prod.mk.injEq] at h
        obtain ⟨_, rfl, rfl⟩ := h
        refine ⟨?_, r.2, rfl, by simpa using hle⟩
        unfold hsOf at e1
        split at e1
        · dsimp only at e1
          split at e1
          · next hall =>
            simp only [Option.some.injEq] at e1
            subst e1
            intro b hb
            simp only [hw, Bool.not_true, Bool.false_or] at hall
            have := List.all_eq_true.1 hall b hb
            simpa [Nat.blt_eq] using this
          · cases e1
        · cases e1
      · cases h
    · cases h

theorem act_none {s : Slots} {H : AHeap} {o : AOper} {v : AV} {H' : AHeap} (h : act M c n0 s H o = some (v, H', none)) : v = .tup [] ∧ H' = H ∧ ∀ K, act M c n0 s K o = some (.tup [], K, none) := by
  unfold act at h ⊢
  split at h
  · cases h
  · next hw =>
    simp only [Option.some.injEq, Prod.mk.injEq] at h
    exact ⟨h.1.symm, h.2.1.symm, fun K => by simp only [hw]⟩
  · split at h
    · split at h
      · split at h
        · simp at h
        · cases h
      · cases h
    · cases h

theorem subB_iff {l m : List Nat} : subB l m = true ↔ ∀ x ∈ l, x ∈ m := by simp [subB]

theorem readsA_R {op : AOp} (h : readsA op = false) : isR op = false ∧ writes op = false := by
  simp only [readsA, Bool.or_eq_false_iff] at h
  exact ⟨h.1.1, h.2⟩
theorem rbox_none {s : Slots} {op : AOp} (h : isR op = false) : rbox s op = none := by
  unfold rbox
  cases ha : addrOf op with
  | none => rfl
  | some x => simp [isR, ha] at h
theorem R_ranks {op : AOp} (h : isR op = true) : ranksOf op = [] ∧ writes op = false := by
  cases op <;> simp [isR, addrOf] at h <;> simp [ranksOf, writes]

theorem dstApart_spec {a x : AOper} (h : dstApart a x = true) : (∀ d, a.dst = some d → d ∉ seesOf x ∧ x.dst ≠ some d) ∧ ∀ d, x.dst = some d → d ∉ seesOf a := by
  simp only [dstApart, Bool.and_eq_true] at h
  refine ⟨fun d hd => ?_, fun d hd => ?_⟩
  · have := h.1; rw [hd] at this
    simpa using this
  · have := h.2; rw [hd] at this
    simpa using this

/-- **Two operations change places.** -/
theorem swap {s s1 s2 : Slots} {H H1 H2 : AHeap} {hc hc1 hc2 : List (Option (List Nat))} {a x : AOper} (hda : drawOne a = true) (hdx : drawOne x = true) (hp : pairOk a x (if writes a.op then 1 else 0) = true)
    (hdis : ∀ r ∈ ranksOf a.op, r ∉ ranksOf x.op)
    (ha : oper M c n0 s H hc a = some (s1, H1, hc1)) (hx : oper M c n0 s1 H1 hc1 x = some (s2, H2, hc2)) :
    ∃ s1' H1' hc1' s2', oper M c n0 s H hc { x with inc := if writes a.op then x.inc - 1 else x.inc } = some (s1', H1', hc1') ∧ oper M c n0 s1' H1' hc1' a = some (s2', H2, hc2) ∧ Eqv s2 s2' := by
  obtain ⟨va, ea, a1, a2, rfl, rfl⟩ := oper_act.1 ha
  obtain ⟨vx, ex, x1, x2, rfl, rfl⟩ := oper_act.1 hx
  simp only [pairOk, Bool.and_eq_true] at hp
  obtain ⟨hap, hp⟩ := hp
  obtain ⟨ap1, ap2⟩ := dstApart_spec hap
  have cx : ∀ t ∈ seesOf x, sget (sput s a.dst va) t = sget s t := by
    intro t ht
    rw [sget_put]
    split
    · next e => exact absurd ht (ap1 t e).1
    · rfl
  have ca : ∀ v, ∀ t ∈ seesOf a, sget s t = sget (sput s x.dst v) t := by
    intro v t ht
    rw [sget_put]
    split
    · next e => exact absurd ht (ap2 t e)
    · rfl
  rw [act_congr cx] at x1
  rw [seenBy_congr cx] at x2
  have eqv : Eqv (sput (sput s a.dst va) x.dst vx) (sput (sput s x.dst vx) a.dst va) := by
    intro t
    simp only [sget_put]
    by_cases e1 : x.dst = some t <;> by_cases e2 : a.dst = some t <;> simp [e1, e2]
    exact absurd e1 (ap1 t e2).2
  have x' : ∀ K, act M c n0 s K { x with inc := if writes a.op then x.inc - 1 else x.inc } = act M c n0 s K x := fun K => rfl
  -- what is left to show: the two act the other way round
  have goal : ∀ (H1' : AHeap) (hc1' : List (Option (List Nat))), act M c n0 s H x = some (vx, H1', ex) → act M c n0 s H1' a = some (va, H2, ea) →
      (ex = none ∨ seenBy s { x with inc := if writes a.op then x.inc - 1 else x.inc } hc = true) → hc1' = (if writes x.op then ex :: hc else hc) → (ea = none ∨ seenBy s a hc1' = true) →
      ((if writes a.op then ea :: hc1' else hc1') = if writes x.op then ex :: (if writes a.op then ea :: hc else hc) else (if writes a.op then ea :: hc else hc)) →
      ∃ s1' H1' hc1' s2', oper M c n0 s H hc { x with inc := if writes a.op then x.inc - 1 else x.inc } = some (s1', H1', hc1') ∧ oper M c n0 s1' H1' hc1' a = some (s2', H2, if writes x.op then ex :: (if writes a.op then ea :: hc else hc) else (if writes a.op then ea :: hc else hc)) ∧ Eqv (sput (sput s a.dst va) x.dst vx) s2' := by
    intro H1' hc1' g1 g2 g3 g4 g5 g6
    refine ⟨sput s x.dst vx, H1', hc1', sput (sput s x.dst vx) a.dst va, ?_, ?_, eqv⟩
    · exact oper_act.2 ⟨vx, ex, by rw [x']; exact g1, g3, rfl, g4⟩
    · refine oper_act.2 ⟨va, ea, by rw [← act_congr (ca vx)]; exact g2, ?_, rfl, g6.symm⟩
      rw [← seenBy_congr (ca vx)]; exact g5
  have ranksIn : ∀ {S : List (Nat × AO)} {l m : List Nat}, (∀ q ∈ S, ∃ r ∈ l, q.1 = n0 + r) → subB l m = true → ∀ q ∈ S, ∃ r ∈ m, q.1 = n0 + r := by
    intro S l m h1 h2 q hq
    obtain ⟨r, hr, e⟩ := h1 q hq
    exact ⟨r, subB_iff.1 h2 r hr, e⟩
  have inHid : ∀ {S : List (Nat × AO)} {m : List Nat}, (∀ q ∈ S, ∃ r ∈ m, q.1 = n0 + r) → ∀ q ∈ S, q.1 ∈ m.map (n0 + ·) := by
    intro S m h q hq
    obtain ⟨r, hr, e⟩ := h q hq
    rw [e]; exact List.mem_map_of_mem hr
  -- seen, where nobody is asked
  have unseen : ∀ (o : AOper) (l : List (Option (List Nat))), isR o.op = false → seenBy s o l = true := by
    intro o l h
    simp [seenBy, rbox_none h]
  cases hwa : writes a.op <;> cases hwx : writes x.op <;> simp only [hwa, hwx, if_true, if_false, Bool.false_eq_true] at hp goal x2 ⊢
  · -- neither writes
    simp only [Bool.and_eq_true, Bool.or_eq_true, Bool.not_eq_true'] at hp
    obtain ⟨S, s1, rfl, s3⟩ := act_own hwa hda a1
    obtain ⟨T, t1, rfl, t3⟩ := act_own hwx hdx x1
    have hST : ∀ q ∈ S, ∀ p ∈ T, q.1 ≠ p.1 := by
      intro q hq p hp' e
      obtain ⟨r, hr, e1⟩ := s1 q hq
      obtain ⟨r', hr', e2⟩ := t1 p hp'
      have : r = r' := by omega
      subst this
      exact hdis r hr hr'
    have g1 := t3 H (by
      rcases hp.2 with h | h
      · exact .inl h
      · right; left; rw [hide_setAll (inHid (ranksIn s1 h))])
    have g2 := s3 (setAll H T) (by
      rcases hp.1 with h | h
      · exact .inl h
      · right; left; rw [hide_setAll (inHid (ranksIn t1 h))])
    refine goal _ hc g1 (by rw [g2, setAll_comm hST]) x2 rfl a2 rfl
  · -- x writes
    simp only [Bool.and_eq_true, Bool.not_eq_true'] at hp
    obtain ⟨S, s1, rfl, s3⟩ := act_own hwa hda a1
    rw [act_over hwx (ranksIn s1 hp.2)] at x1
    cases hq : act M c n0 s H x with
    | none => simp [hq] at x1
    | some r =>
      obtain ⟨v', H1', e'⟩ := r
      simp only [hq, Option.map_some, Option.some.injEq, Prod.mk.injEq] at x1
      obtain ⟨rfl, rfl, rfl⟩ := x1
      exact goal H1' (e' :: hc) hq (s3 H1' (.inl hp.1)) x2 rfl (.inr (unseen a _ (readsA_R hp.1).1)) rfl
  · -- a writes
    obtain ⟨T, t1, rfl, t3⟩ := act_own hwx hdx x1
    have aT : (∀ q ∈ T, ∃ r ∈ a.hid, q.1 = n0 + r) → act M c n0 s (setAll H T) a = some (va, setAll H1 T, ea) := by
      intro hT
      rw [act_over hwa hT, a1]; rfl
    cases hR : isR x.op with
    | true =>
      simp only [hR, if_true, Nat.ble_eq] at hp
      have hT : T = [] := by
        cases T with
        | nil => rfl
        | cons q T => obtain ⟨r, hr, _⟩ := t1 q (by simp); rw [(R_ranks hR).1] at hr; cases hr
      subst hT
      have hinc : ∃ m, x.inc = m + 1 := ⟨x.inc - 1, by omega⟩
      obtain ⟨m, hm⟩ := hinc
      -- where x looks, nothing has turned
      have hlook : ex = none ∨ (seenBy s { x with inc := x.inc - 1 } hc = true ∧ (Same s x.op (hide H1 (x.hid.map (n0 + ·))) (hide H (x.hid.map (n0 + ·))))) := by
        rcases x2 with h | h
        · exact .inl h
        · right
          simp only [seenBy, hm] at h ⊢
          cases hb : rbox s x.op with
          | none =>
            refine ⟨by simp, .inr (.inr ⟨hR, fun b h => by rw [hb] at h; cases h⟩)⟩
          | some b =>
            simp only [hb, List.take_succ_cons, List.all_cons, Bool.and_eq_true] at h
            refine ⟨by simpa using h.2, .inr (.inr ⟨hR, fun b' hb' => ?_⟩)⟩
            rw [hb] at hb'; cases hb'
            have e1 : H1[b]? = H[b]? := by
              cases ea with
              | none => rw [(act_none a1).2.1]
              | some hs =>
                obtain ⟨q1, H2', rfl, q2⟩ := hs_lt hwa a1
                have hbs : b ∈ hs := by simpa using h.1
                have hlt := q1 b hbs
                have hget := List.getElem?_eq_getElem hlt
                have hle : H.length ≤ H2'.length := q2.resolve_left (by rintro rfl; simp at hbs)
                have hget2 : H2'[b]? = some (H2'[b]'(by omega)) := List.getElem?_eq_getElem (by omega)
                rw [unhide_get', hget, hget2]
                simp only [hbs, if_true, Option.getD_some, Option.map_some]
            show (hide H _)[b]? = (hide H1 _)[b]?
            rw [hide_get', hide_get', e1]
      rcases hlook with rfl | ⟨h1, h2⟩
      · have := act_none x1
        exact goal H hc (this.2.2 H |>.trans (by rw [this.1])) (by simpa [setAll] using a1) (.inl rfl) rfl a2 rfl
      · exact goal H hc (by simpa [setAll] using t3 H h2) (by simpa [setAll] using a1) (.inr h1) rfl a2 rfl
    | false =>
      simp only [hR, Bool.false_eq_true, if_false, Bool.and_eq_true, Bool.not_eq_true'] at hp
      have g1 := t3 H (.inl hp.1)
      exact goal (setAll H T) hc g1 (aT (ranksIn t1 hp.2)) (.inr (unseen _ _ hR)) rfl a2 rfl

/-! ### the order that is drawn -/
def wc : List AOper → Nat
  | [] => 0
  | a :: l => (if writes a.op then 1 else 0) + wc l

theorem okAfter_at {ms : List Nat} {a x : AOper} : ∀ {A B : List AOper} {n : Nat}, okAfter ms a n (A ++ x :: B) = true → (ms.getD x.src 0).testBit a.src = true ∨ pairOk a x (n + wc A) = true
  | [], B, n, h => by
    simp only [List.nil_append, okAfter, Bool.and_eq_true, Bool.or_eq_true] at h
    simpa [wc] using h.1
  | y :: A, B, n, h => by
    simp only [List.cons_append, okAfter, Bool.and_eq_true] at h
    have := okAfter_at h.2
    rcases this with h1 | h1
    · exact .inl h1
    · right
      cases hw : writes y.op <;> simp only [hw, if_true, if_false, Bool.false_eq_true, wc] at h1 ⊢
      · simpa using h1
      · rw [show n + (1 + wc A) = n + 1 + wc A by omega]; exact h1

theorem pairOk_le {a x : AOper} {n m : Nat} (h : pairOk a x n = true) (hm : m ≤ n) : pairOk a x m = true := by
  simp only [pairOk, Bool.and_eq_true] at h ⊢
  refine ⟨h.1, ?_⟩
  have h2 := h.2
  revert h2
  cases writes a.op <;> cases writes x.op <;> simp only [imp_self]
  split
  · intro h2; simp only [Nat.ble_eq] at h2 ⊢; omega
  · exact id
theorem okAfter_le {ms : List Nat} {a : AOper} : ∀ {l : List AOper} {n m : Nat}, okAfter ms a n l = true → m ≤ n → okAfter ms a m l = true
  | [], n, m, h, _ => rfl
  | x :: l, n, m, h, hm => by
    simp only [okAfter, Bool.and_eq_true, Bool.or_eq_true] at h ⊢
    refine ⟨h.1.imp id (fun q => pairOk_le q hm), okAfter_le h.2 ?_⟩
    split <;> omega
theorem okAfter_del {ms : List Nat} {a x : AOper} : ∀ {A B : List AOper} {n : Nat}, okAfter ms a n (A ++ x :: B) = true → okAfter ms a n (A ++ B) = true
  | [], B, n, h => by
    simp only [List.nil_append, okAfter, Bool.and_eq_true] at h ⊢
    exact okAfter_le h.2 (by split <;> omega)
  | y :: A, B, n, h => by
    simp only [List.cons_append, okAfter, Bool.and_eq_true] at h ⊢
    exact ⟨h.1, okAfter_del h.2⟩
theorem pairsOk_del {ms : List Nat} {x : AOper} : ∀ {A B : List AOper}, pairsOk ms (A ++ x :: B) = true → pairsOk ms (A ++ B) = true
  | [], B, h => by simp only [List.nil_append, pairsOk, Bool.and_eq_true] at h; exact h.2
  | y :: A, B, h => by
    simp only [List.cons_append, pairsOk, Bool.and_eq_true] at h ⊢
    exact ⟨okAfter_del h.1, pairsOk_del h.2⟩

theorem pairOk_inc {a x : AOper} {n m : Nat} (h : pairOk a x n = true) (hm : m ≤ n) : pairOk a { x with inc := x.inc - (n - m) } m = true := by
  simp only [pairOk, Bool.and_eq_true] at h ⊢
  refine ⟨h.1, ?_⟩
  have h2 := h.2
  revert h2
  cases writes a.op <;> cases writes x.op <;> simp only [imp_self]
  split
  · intro h2; simp only [Nat.ble_eq] at h2 ⊢; omega
  · exact id

/-- **What may go first goes first.** -/
theorem move_front {ms : List Nat} {x : AOper} {B : List AOper} (hdx : drawOne x = true) : ∀ {A : List AOper} {s s' : Slots} {H H' : AHeap} {hc : List (Option (List Nat))}, (∀ a ∈ A, drawOne a = true) → (∀ a ∈ A, (ms.getD x.src 0).testBit a.src = false) → pairsOk ms (A ++ x :: B) = true →
    (∀ a ∈ A, ∀ r ∈ ranksOf a.op, r ∉ ranksOf x.op) → opers M c n0 (A ++ x :: B) s H hc = some (s', H') →
    ∃ s1 H1 hc1 s'', oper M c n0 s H hc { x with inc := x.inc - wc A } = some (s1, H1, hc1) ∧ opers M c n0 (A ++ B) s1 H1 hc1 = some (s'', H') ∧ Eqv s' s''
  | [], s, s', H, H', hc, hA, hms, hp, hr, h => by
    simp only [List.nil_append, opers] at h
    split at h
    · cases h
    · next s1 H1 hc1 h1 =>
      exact ⟨s1, H1, hc1, s', by simpa [wc] using h1, h, fun _ => rfl⟩
  | a :: A, s, s', H, H', hc, hA, hms, hp, hr, h => by
    simp only [List.cons_append, opers] at h
    split at h
    · cases h
    · next s1 H1 hc1 h1 =>
      simp only [List.cons_append, pairsOk, Bool.and_eq_true] at hp
      obtain ⟨s2, H2, hc2, s3, q1, q2, q3⟩ := move_front (ms := ms) hdx (fun y hy => hA y (by simp [hy])) (fun y hy => hms y (by simp [hy])) hp.2 (fun y hy => hr y (by simp [hy])) h
      have hpo := (okAfter_at hp.1).resolve_left (by rw [hms a (by simp)]; simp)
      have hpo' := pairOk_inc hpo (Nat.le_add_right (if writes a.op then 1 else 0) (wc A))
      rw [show (if writes a.op = true then 1 else 0) + wc A - (if writes a.op = true then 1 else 0) = wc A by omega] at hpo'
      obtain ⟨s1', H1', hc1', s2', p1, p2, p3⟩ := swap (hA a (by simp)) (x := { x with inc := x.inc - wc A }) hdx hpo' (hr a (by simp)) h1 q1
      obtain ⟨s3', r1, r2⟩ := opers_eqv p3 q2
      refine ⟨s1', H1', hc1', s3', ?_, by simp only [List.cons_append, opers, p2, r1], fun t => (q3 t).trans (r2 t)⟩
      have e : x.inc - wc (a :: A) = if writes a.op = true then x.inc - wc A - 1 else x.inc - wc A := by
        simp only [wc]
        cases writes a.op <;> simp <;> omega
      rw [e]; exact p1
end

/-! ### what must come first -/
theorem foldl_bits {D : Nat → Prop} {acc : List Nat} : ∀ (es : List Edge) (m : Nat), (∀ i, m.testBit i = true → D i) → (∀ e ∈ es, Region.binds .any e = true → D e.on ∧ ∀ i, (acc.getD e.on 0).testBit i = true → D i) →
    ∀ i, (es.foldl (fun m e => if Region.binds .any e then m ||| 2 ^ e.on ||| acc.getD e.on 0 else m) m).testBit i = true → D i
  | [], m, h, _, i, hi => h i hi
  | e :: es, m, h, he, i, hi => by
    simp only [List.foldl_cons] at hi
    refine foldl_bits es _ ?_ (fun e' he' => he e' (by simp [he'])) i hi
    intro j hj
    split at hj
    · next hb =>
      obtain ⟨q1, q2⟩ := he e (by simp) hb
      simp only [Nat.testBit_or, Bool.or_eq_true, Nat.testBit_two_pow, decide_eq_true_eq] at hj
      rcases hj with (hj | hj) | hj
      · exact h j hj
      · exact hj ▸ q1
      · exact q2 j hj
    · exact h j hj

def MOk (ops : List Oper) (D : Nat → Prop) (acc : List Nat) : Prop :=
  ∀ (j : Nat) (m : Nat), acc[j]? = some m → ∀ o, ops[j]? = some o → (∀ e ∈ o.after.toList, Region.binds .any e = true → D e.on) → ∀ i, m.testBit i = true → D i

theorem masks_ok {ops : List Oper} {D : Nat → Prop} (hD : ∀ (y : Nat) o, ops[y]? = some o → D y → ∀ e ∈ o.after.toList, Region.binds .any e = true → D e.on) :
    ∀ (l : List Oper) (pre : List Oper) (acc : List Nat), ops = pre ++ l → acc.length = pre.length → MOk ops D acc → MOk ops D (masks l acc)
  | [], pre, acc, _, _, h => h
  | o :: l, pre, acc, e, hl, h => by
    simp only [masks]
    refine masks_ok hD l (pre ++ [o]) _ (by simp [e]) (by simp [hl]) ?_
    intro j m hj o' ho' he i hi
    rcases Nat.lt_or_ge j acc.length with hlt | hge
    · rw [List.getElem?_append_left hlt] at hj
      exact h j m hj o' ho' he i hi
    · have hj' : j = acc.length := by
        have := (List.getElem?_eq_some_iff.1 hj).1
        simp at this; omega
      subst hj'
      rw [List.getElem?_append_right (Nat.le_refl _)] at hj
      simp only [Nat.sub_self, List.getElem?_cons_zero, Option.some.injEq] at hj
      have : o' = o := by
        rw [e, hl, List.getElem?_append_right (Nat.le_refl _)] at ho'
        simpa using ho'.symm
      subst this
      subst hj
      refine foldl_bits _ 0 (by simp) (fun ed hed hb => ?_) i hi
      have hDe := he ed hed hb
      refine ⟨hDe, fun i hi => ?_⟩
      rw [List.getD_eq_getElem?_getD] at hi
      cases hq : acc[ed.on]? with
      | none => simp [hq] at hi
      | some m' =>
        simp only [hq, Option.getD_some] at hi
        have hlt := (List.getElem?_eq_some_iff.1 hq).1
        have hlo : ed.on < ops.length := by rw [e]; simp; omega
        have ho2 := List.getElem?_eq_getElem hlo
        exact h ed.on m' hq _ ho2 (hD ed.on _ ho2 hDe) i hi

theorem masks_spec {ops : List Oper} {D : Nat → Prop} (hD : ∀ (y : Nat) o, ops[y]? = some o → D y → ∀ e ∈ o.after.toList, Region.binds .any e = true → D e.on)
    {j : Nat} {o : Oper} (ho : ops[j]? = some o) (he : ∀ e ∈ o.after.toList, Region.binds .any e = true → D e.on) {i : Nat} (hi : ((masks ops []).getD j 0).testBit i = true) : D i := by
  have h := masks_ok hD ops [] [] rfl rfl (fun j m hj => by simp at hj)
  rw [List.getD_eq_getElem?_getD] at hi
  cases hq : (masks ops [])[j]? with
  | none => simp [hq] at hi
  | some m => simp only [hq, Option.getD_some] at hi; exact h j m hq o ho he i hi

theorem binds_any {md : Region.Mode} {e : Edge} (h : Region.binds .any e = true) : Region.binds md e = true := by
  unfold Region.binds at h ⊢
  split <;> simp_all

theorem gD (a : Array Bool) (i : Nat) (d : Bool) : a.getD i d = (a[i]?).getD d := by simp [Array.getD_eq_getD_getElem?]
theorem gD_set (a : Array Bool) {j : Nat} (h : j < a.size) (i : Nat) (d : Bool) : (a.setIfInBounds j true).getD i d = if i = j then true else a.getD i d := by
  rw [gD, gD, Array.getElem?_setIfInBounds]
  by_cases e : j = i
  · subst e; simp [h]
  · have e' : ¬ i = j := fun h => e h.symm
    simp [e, e']
theorem gD_in {a : Array Bool} {i : Nat} (h : i < a.size) (d d' : Bool) : a.getD i d = a.getD i d' := by
  rw [gD, gD]; simp [h]

/-- The same operations but for 'inc'. -/
def SameOps (l l' : List AOper) : Prop := ∀ o ∈ l', ∃ o0 ∈ l, ∃ n, o = { o0 with inc := n }

section
variable {M : Mach} {c : Sc} {n0 : Nat}

theorem draw_go {ops : Array Oper} (hback : edgesBack ops.toList = true) : ∀ (fuel t : Nat) (listed : Array Bool) (l : List AOper) (s s' : Slots) (H H' : AHeap) (hc : List (Option (List Nat))),
    l.length = fuel → listed.size = ops.size → (∀ i, i < ops.size → (listed.getD i true = false ↔ ∃ o ∈ l, o.src = i)) → (∀ o ∈ l, o.src < ops.size) → (l.map (·.src)).Nodup →
    (∀ (y : Nat) o, ops[y]? = some o → listed.getD y false = true → ∀ e ∈ o.after.toList, Region.binds .any e = true → listed.getD e.on false = true) →
    (∀ a ∈ l, drawOne a = true) → pairsOk (masks ops.toList []) l = true → (l.flatMap fun o => ranksOf o.op).Nodup → opers M c n0 l s H hc = some (s', H') →
    ∃ l' s'', l'.map (·.src) = Region.linearise.go .any ops fuel t listed [] ∧ SameOps l l' ∧ (l'.flatMap fun o => ranksOf o.op).Perm (l.flatMap fun o => ranksOf o.op) ∧ opers M c n0 l' s H hc = some (s'', H') ∧ Eqv s' s''
  | 0, t, listed, l, s, s', H, H', hc, hf, _, _, _, _, _, _, _, _, h => by
    have : l = [] := List.length_eq_zero_iff.1 hf
    subst this
    exact ⟨[], s', by simp [Region.linearise.go], by simp [SameOps], List.Perm.refl _, h, fun _ => rfl⟩
  | fuel + 1, t, listed, l, s, s', H, H', hc, hf, hsz, hun, hlt, hnd, hcl, hd, hp, hrk, h => by
    simp only [Region.linearise.go]
    change ∃ (l' : List AOper) (s'' : Slots), l'.map (·.src) = (match (Region.ready .any ops listed)[t % (Region.ready .any ops listed).length]? with
      | some i => Region.linearise.go .any ops fuel (t / (Region.ready .any ops listed).length) (listed.setIfInBounds i true) [i]
      | none => [].reverse) ∧ _
    -- something is ready
    have hne : Region.ready .any ops listed ≠ [] := by
      obtain ⟨o0, ho0⟩ : ∃ o0, o0 ∈ l := by
        cases l with
        | nil => simp at hf
        | cons o l => exact ⟨o, by simp⟩
      have hmin : ∀ n, (∃ i, i < n ∧ i < ops.size ∧ listed.getD i true = false) → ∃ i, i ∈ Region.ready .any ops listed := by
        intro n
        induction n with
        | zero => rintro ⟨i, hi, _⟩; omega
        | succ n ih =>
          by_cases hex : ∃ i, i < n ∧ i < ops.size ∧ listed.getD i true = false
          · exact fun _ => ih hex
          · rintro ⟨i, hi, hi2, hi3⟩
            have hin : i = n := by
              rcases Nat.lt_or_ge i n with h1 | h1
              · exact absurd ⟨i, h1, hi2, hi3⟩ hex
              · omega
            subst hin
            refine ⟨i, ?_⟩
            have hq : ops[i]? = some ops[i] := by simp [hi2]
            simp only [Region.ready, List.mem_filter, List.mem_range, hi2, hi3, hq, Option.map_some, Option.getD_some, true_and, Bool.not_false, Bool.true_and, Array.all_eq_true]
            intro k hk
            cases hbk : Region.binds .any ops[i].after[k] with
            | false => simp
            | true =>
            have hon : ops[i].after[k].on < i := by
              simp only [edgesBack, List.all_eq_true] at hback
              have := hback (ops[i], i) (by
                rw [List.mem_zipIdx_iff_getElem?]
                simp [hi2]) ops[i].after[k] (by simp)
              simpa [hbk] using this
            have : listed.getD ops[i].after[k].on true ≠ false := fun hc => hex ⟨_, hon, by omega, hc⟩
            have hlt2 : ops[i].after[k].on < listed.size := by omega
            simp only [Bool.or_eq_true]
            right
            simpa [Array.getD, hlt2] using this
      have h1 := hlt o0 ho0
      obtain ⟨i, hi⟩ := hmin ops.size ⟨o0.src, h1, h1, (hun o0.src h1).2 ⟨o0, ho0, rfl⟩⟩
      intro hnil; rw [hnil] at hi; cases hi
    have hpos : 0 < (Region.ready .any ops listed).length := by
      cases hr : Region.ready .any ops listed with
      | nil => exact absurd hr hne
      | cons => simp
    have hmod : t % (Region.ready .any ops listed).length < (Region.ready .any ops listed).length := Nat.mod_lt _ hpos
    obtain ⟨i, hi⟩ : ∃ i, (Region.ready .any ops listed)[t % (Region.ready .any ops listed).length]? = some i := ⟨_, List.getElem?_eq_getElem hmod⟩
    rw [hi]
    have hmem := List.mem_of_getElem? hi
    simp only [Region.ready, List.mem_filter, List.mem_range, Bool.and_eq_true, Bool.not_eq_true'] at hmem
    obtain ⟨hi1, hi2, hi3⟩ := hmem
    have hq : ops[i]? = some ops[i] := by simp [hi1]
    simp only [hq, Option.map_some, Option.getD_some, Array.all_eq_true] at hi3
    have hedges : ∀ e ∈ ops[i].after.toList, Region.binds .any e = true → listed.getD e.on false = true := by
      intro e he hb
      obtain ⟨k, hk, rfl⟩ := List.mem_iff_getElem.1 he
      have := hi3 k (by simpa using hk)
      simp only [Array.getElem_toList] at hb ⊢
      rw [hb] at this
      simpa using this
    obtain ⟨x, hx, hsrc⟩ := (hun i hi1).1 hi2
    obtain ⟨A, B, rfl⟩ := List.append_of_mem hx
    subst hsrc
    have hms : ∀ a ∈ A, ((masks ops.toList []).getD x.src 0).testBit a.src = false := by
      intro a ha
      cases hb : ((masks ops.toList []).getD x.src 0).testBit a.src with
      | false => rfl
      | true =>
        have hD := masks_spec (ops := ops.toList) (D := fun i => listed.getD i false = true) (fun y o ho => hcl y o (by simpa using ho)) (j := x.src) (o := ops[x.src]) (by simpa using hq) hedges hb
        have halt := hlt a (by simp [ha])
        have hunl := (hun a.src halt).2 ⟨a, by simp [ha], rfl⟩
        have : a.src < listed.size := by omega
        rw [gD_in this true false] at hunl
        rw [hunl] at hD; cases hD
    have hdisj : ∀ a ∈ A, ∀ r ∈ ranksOf a.op, r ∉ ranksOf x.op := by
      intro a ha r hr hr'
      rw [List.flatMap_append] at hrk
      exact (List.nodup_append.1 hrk).2.2 r (List.mem_flatMap.2 ⟨a, ha, hr⟩) r (List.mem_flatMap.2 ⟨x, by simp, hr'⟩) rfl
    obtain ⟨s1, H1, hc1, s2, q1, q2, q3⟩ := move_front (ms := masks ops.toList []) (hd x (by simp)) (fun a ha => hd a (by simp [ha])) hms hp hdisj h
    simp only [List.map_append, List.map_cons] at hnd
    have hnd' : ((A ++ B).map (·.src)).Nodup ∧ ∀ o ∈ A ++ B, o.src ≠ x.src := by
      obtain ⟨n1, n2, n3⟩ := List.nodup_append.1 hnd
      obtain ⟨n4, n5⟩ := List.nodup_cons.1 n2
      refine ⟨by rw [List.map_append]; exact List.nodup_append.2 ⟨n1, n5, fun a ha b hb => n3 a ha b (List.mem_cons_of_mem _ hb)⟩, fun o ho e => ?_⟩
      rcases List.mem_append.1 ho with ho | ho
      · exact n3 _ (List.mem_map_of_mem ho) _ (by simp) e
      · exact n4 (e ▸ List.mem_map_of_mem ho)
    obtain ⟨l', s3, r1, r2, r3, r4, r5⟩ := draw_go hback fuel (t / (Region.ready .any ops listed).length) (listed.setIfInBounds x.src true) (A ++ B) s1 s2 H1 H' hc1
      (by simp at hf ⊢; omega) (by simpa using hsz) (fun i hi => by
        by_cases e : i = x.src
        · subst e
          have : x.src < listed.size := by omega
          rw [gD_set _ this, if_pos rfl]
          constructor
          · intro h; cases h
          · rintro ⟨o, ho, e⟩; exact absurd e (hnd'.2 o ho)
        · have hxs : x.src < listed.size := by omega
          have e2 : (listed.setIfInBounds x.src true).getD i true = listed.getD i true := by rw [gD_set _ hxs, if_neg e]
          rw [e2, hun i hi]
          constructor
          · rintro ⟨o, ho, rfl⟩
            refine ⟨o, ?_, rfl⟩
            rcases List.mem_append.1 ho with ho | ho
            · exact List.mem_append_left _ ho
            · rcases List.mem_cons.1 ho with rfl | ho
              · exact absurd rfl e
              · exact List.mem_append_right _ ho
          · rintro ⟨o, ho, rfl⟩
            refine ⟨o, ?_, rfl⟩
            rcases List.mem_append.1 ho with ho | ho
            · exact List.mem_append_left _ ho
            · exact List.mem_append_right _ (List.mem_cons_of_mem _ ho))
      (fun o ho => hlt o (by rcases List.mem_append.1 ho with ho | ho <;> simp [ho])) hnd'.1
      (fun y o ho hy e he hb => by
        have hxs : x.src < listed.size := by omega
        have mono : ∀ i, listed.getD i false = true → (listed.setIfInBounds x.src true).getD i false = true := by
          intro i hi
          rw [gD_set _ hxs]
          split
          · rfl
          · exact hi
        by_cases e2 : y = x.src
        · subst e2
          rw [hq] at ho; cases ho
          exact mono _ (hedges e he hb)
        · refine mono _ (hcl y o ho ?_ e he hb)
          rw [gD_set _ hxs, if_neg e2] at hy
          exact hy)
      (fun a ha => hd a (by rcases List.mem_append.1 ha with ha | ha <;> simp [ha])) (pairsOk_del hp)
      (by
        rw [List.flatMap_append] at hrk ⊢
        rw [List.flatMap_cons] at hrk
        obtain ⟨n1, n2, n3⟩ := List.nodup_append.1 hrk
        obtain ⟨n4, n5, n6⟩ := List.nodup_append.1 n2
        exact List.nodup_append.2 ⟨n1, n5, fun a ha b hb => n3 a ha b (List.mem_append_right _ hb)⟩) q2
    refine ⟨{ x with inc := x.inc - wc A } :: l', s3, ?_, ?_, ?_, by simp only [opers, q1, r4], fun t => (q3 t).trans (r5 t)⟩
    · simp only []
      rw [linearise_go_acc]
      simp [r1]
    · intro o ho
      rcases List.mem_cons.1 ho with rfl | ho
      · exact ⟨x, by simp, _, rfl⟩
      · obtain ⟨o0, h0, n, e⟩ := r2 o ho
        exact ⟨o0, by rcases List.mem_append.1 h0 with h0 | h0 <;> simp [h0], n, e⟩
    · simp only [List.flatMap_cons]
      refine (List.Perm.append_left _ r3).trans ?_
      rw [List.flatMap_append, List.flatMap_append, List.flatMap_cons]
      exact List.perm_append_comm_assoc _ _ _

theorem short : ∀ (n : Nat) (l : List Nat), l.Nodup → (∀ x ∈ l, x < n) → l.length ≤ n
  | 0, l, _, h => by
    cases l with
    | nil => simp
    | cons x l => have := h x (by simp); omega
  | n + 1, l, hn, h => by
    by_cases hm : n ∈ l
    · have h1 := short n (l.erase n) (hn.erase n) (fun x hx => by
        obtain ⟨h1, h2⟩ := (hn.mem_erase_iff).1 hx
        have := h x h2
        omega)
      rw [List.length_erase_of_mem hm] at h1
      omega
    · have h1 := short n l hn (fun x hx => by
        have := h x hx
        have : x ≠ n := fun e => hm (e ▸ hx)
        omega)
      omega
theorem all_there {n : Nat} {l : List Nat} (hn : l.Nodup) (h : ∀ x ∈ l, x < n) (hl : l.length = n) {i : Nat} (hi : i < n) : i ∈ l := by
  by_cases hm : i ∈ l
  · exact hm
  · have := short n (i :: l) (List.nodup_cons.2 ⟨hm, hn⟩) (fun x hx => by
      rcases List.mem_cons.1 hx with rfl | hx
      · exact hi
      · exact h x hx)
    simp at this
    omega

/-- **All orders come to the same.** -/
theorem draw_perm {ops : Array Oper} {l : List AOper} (hd : drawOk ops l = true) (hsrc : ∀ o ∈ l, o.src < ops.size) (hrk : (l.flatMap fun o => ranksOf o.op).Nodup) {s s' : Slots} {H H' : AHeap} (h : opers M c n0 l s H [] = some (s', H')) (t : Nat) :
    ∃ l' s'', l'.map (·.src) = Region.schedule true ops t ∧ SameOps l l' ∧ (l'.flatMap fun o => ranksOf o.op).Perm (l.flatMap fun o => ranksOf o.op) ∧ opers M c n0 l' s H [] = some (s'', H') ∧ Eqv s' s'' := by
  simp only [drawOk, Bool.and_eq_true] at hd
  obtain ⟨⟨⟨⟨d1, d2⟩, d3⟩, d4⟩, d5⟩ := hd
  have hlen : l.length = ops.size := by simpa using d5
  have hnd := nodupB_iff d4
  have go : ∀ t, ∃ l' s'', l'.map (·.src) = Region.linearise .any ops t ∧ SameOps l l' ∧ (l'.flatMap fun o => ranksOf o.op).Perm (l.flatMap fun o => ranksOf o.op) ∧ opers M c n0 l' s H [] = some (s'', H') ∧ Eqv s' s'' := by
    intro t
    refine draw_go d1 ops.size t (Array.replicate ops.size false) l s s' H H' [] hlen (by simp) (fun i hi => ?_) hsrc hnd (fun y o ho hy => ?_) (fun a ha => List.all_eq_true.1 d3 a ha) d2 hrk h
    · have : (Array.replicate ops.size false).getD i true = false := by simp [Array.getD, hi]
      simp only [this, true_iff]
      -- all numbers are there
      have this : i ∈ l.map (·.src) := all_there hnd (fun j hj => by
        obtain ⟨o, ho, rfl⟩ := List.mem_map.1 hj
        exact hsrc o ho) (by simpa using hlen) hi
      obtain ⟨o, ho, e⟩ := List.mem_map.1 this
      exact ⟨o, ho, e⟩
    · by_cases hlt : y < ops.size
      · simp [Array.getD, hlt] at hy
      · simp [Array.getD, hlt] at hy
  simp only [Region.schedule, Bool.true_or, if_true]
  exact go t
end
end Am
