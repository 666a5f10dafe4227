/- Operations that leave memory as it is, continued: lengths, strings cut, maps asked, structs built. -/
import Derived.Test.YtjjmechghfjbmaaAmOps4
set_option linter.unusedVariables false
set_option linter.unusedSimpArgs false
set_option linter.unnecessarySimpa false
namespace Am
open Go
section
variable {MC : Nat → Code → ACode → Prop} {P : Program} {B0 : Nat} {c : Sc} {n0 : Nat} {H H' : AHeap} {g : Ghost} {w : World} {s : Slots} {a : Act} {o : Oper} {v : AV}

theorem p_lenS {x : Opd} (hm : matchOp P o.op (.lenS x) = true) (hS : SlotsOk g s a.tmps) (h : prim c n0 s H (.lenS x) = some (v, H')) : Still P a o w g v H H' := by
  simp only [matchOp] at hm
  split at hm
  · next args argTypes hop =>
    split at hm
    · next x' t ea et =>
      simp only [Bool.and_eq_true] at hm
      obtain ⟨h1, h2⟩ := hm
      have e1 : argTypes[0]? = some t := by rw [← Array.getElem?_toList, et]; rfl
      have e2 : (args.map a.eval)[0]? = some (a.eval x') := by rw [Array.getElem?_map, ← Array.getElem?_toList, ea]; rfl
      split at h1
      · next hu =>
        simp only [prim] at h
        split at h
        · next b hp =>
          simp at h; obtain ⟨rfl, rfl⟩ := h
          have ex := V_lit (ev_V hS h2 hp)
          refine ⟨rfl, _, ?_, V_of_lit rfl⟩
          simp [execOp, hop, resolve, invoke, builtin, Builtin.len_, e1, e2, run_underlying hu, ex, goInt]
        · cases h
      · cases h1
    · cases hm
  · cases hm

theorem p_lenM {x : Opd} (hm : matchOp P o.op (.lenM x) = true) (hR : Rel MC P B0 H g w) (hS : SlotsOk g s a.tmps) (h : prim c n0 s H (.lenM x) = some (v, H')) : Still P a o w g v H H' := by
  simp only [matchOp] at hm
  split at hm
  · next args argTypes hop =>
    split at hm
    · next x' t ea et =>
      simp only [Bool.and_eq_true] at hm
      obtain ⟨h1, h2⟩ := hm
      have e1 : argTypes[0]? = some t := by rw [← Array.getElem?_toList, et]; rfl
      have e2 : (args.map a.eval)[0]? = some (a.eval x') := by rw [Array.getElem?_map, ← Array.getElem?_toList, ea]; rfl
      split at h1
      · next kt et' hu =>
        simp only [prim] at h
        split at h
        · next b hp =>
          split at h
          · next es hc =>
            simp at h; obtain ⟨rfl, rfl⟩ := h
            obtain ⟨β, hL, en, clock, q1, q2, _⟩ := hR.map hc
            have hV := ev_V hS h2 hp
            generalize hev : a.eval x' = u at hV
            cases hV with
            | den _ _ hd => cases hd
            | mp _ β' hL' =>
              rw [hL] at hL'; cases hL'
              refine ⟨rfl, _, ?_, V_of_lit rfl⟩
              simp [execOp, hop, resolve, invoke, builtin, Builtin.len_, e1, e2, run_underlying hu, hev, goInt, getObj, Sem.run, q1, q2]
          · cases h
        · next hp =>
          simp at h; obtain ⟨rfl, rfl⟩ := h
          have ex := V_lit (ev_V hS h2 hp)
          refine ⟨rfl, _, ?_, V_of_lit rfl⟩
          simp [execOp, hop, resolve, invoke, builtin, Builtin.len_, e1, e2, run_underlying hu, ex, goInt]
        · cases h
      · cases h1
    · cases hm
  · cases hm

theorem p_lenL {x : Opd} (hm : matchOp P o.op (.lenL x) = true) (hR : Rel MC P B0 H g w) (hS : SlotsOk g s a.tmps) (h : prim c n0 s H (.lenL x) = some (v, H')) : Still P a o w g v H H' := by
  simp only [matchOp] at hm
  split at hm
  · next args argTypes hop =>
    split at hm
    · next x' t ea et =>
      simp only [Bool.and_eq_true] at hm
      obtain ⟨h1, h2⟩ := hm
      have e1 : argTypes[0]? = some t := by rw [← Array.getElem?_toList, et]; rfl
      have e2 : (args.map a.eval)[0]? = some (a.eval x') := by rw [Array.getElem?_map, ← Array.getElem?_toList, ea]; rfl
      split at h1
      · next e hu =>
        have fin : ∀ (n : Nat) ad cp, a.eval x' = .slice ad n cp → v = .lit (.int .i64 n) → H' = H → Still P a o w g v H H' := by
          intro n ad cp he hv hH
          subst hv
          exact ⟨hH, _, by simp [execOp, hop, resolve, invoke, builtin, Builtin.len_, e1, e2, run_underlying hu, he, goInt], V_of_lit rfl⟩
        simp only [prim] at h
        split at h
        · next k hp =>
          simp at h
          have hV := ev_V hS h2 hp
          generalize hev : a.eval x' = u at hV
          cases hV with
          | den _ _ hd => cases hd with | nils => exact fin 0 _ _ hev (by simp [h.1]) h.2.symm
        · next k rows hp =>
          simp at h
          have hV := ev_V hS h2 hp
          generalize hev : a.eval x' = u at hV
          cases hV with
          | den _ _ hd =>
            cases hd with
            | seq0 => exact fin 0 _ _ hev (by simp [← h.1]) h.2.symm
            | seq => exact fin _ _ _ hev (by simp [h.1]) h.2.symm
        · next k rows hp =>
          simp at h
          have hV := ev_V hS h2 hp
          generalize hev : a.eval x' = u at hV
          cases hV with
          | den _ _ hd => cases hd
          | xseq => exact fin _ _ _ hev (by simp [h.1]) h.2.symm
        · next b off k n hp =>
          simp at h
          have hV := ev_V hS h2 hp
          generalize hev : a.eval x' = u at hV
          cases hV with
          | den _ _ hd => cases hd
          | csl => exact fin _ _ _ hev (by simp [h.1]) h.2.symm
        · next b n hp =>
          split at h
          · next k pb rows hc =>
            split at h
            · next hn =>
              simp at h
              obtain ⟨v0, hL, _, hk0, hlen, hv0⟩ := hR.arr hc
              have hV := ev_V hS h2 hp
              generalize hev : a.eval x' = u at hV
              cases hV with
              | den _ _ hd => cases hd
              | asl _ _ k2 v1 _ hL' hle hone hnv =>
                rw [hL] at hL'; cases hL'
                rcases hv0 with ⟨e0, e0'⟩ | ⟨β, cp, e', cur, hv, _⟩
                · subst e0; subst e0'
                  have := hnv (by simpa [slen] using hn)
                  subst this
                  exact fin 0 _ _ hev (by simp [← h.1, ← hn]) h.2.symm
                · subst hv
                  have := hnv (by simpa [slen] using hn)
                  subst this
                  exact fin _ _ _ hev (by simp [h.1, hn]) h.2.symm
            · cases h
          · cases h
        · cases h
      · cases h1
    · cases hm
  · cases hm

theorem bnd_run {x : Option Operand} {y : Option Opd} (hm : matchOpt x y = true) (hS : SlotsOk g s a.tmps) {d r : Int} (h : bnd s d y = some r) :
    (x = none ∧ r = d) ∨ ∃ x' k, x = some x' ∧ a.eval x' = .int k r := by
  cases x <;> cases y <;> simp [matchOpt] at hm
  · simp [bnd] at h; exact .inl ⟨rfl, h.symm⟩
  · simp only [bnd, evInt] at h
    split at h
    · next k n he =>
      cases h
      exact .inr ⟨_, k, rfl, V_int (ev_V hS hm he)⟩
    · cases h

theorem run_sliceBounds {lo hi : Option Value} {isSlice : Bool} {len cap : Nat} {l h : Int} (h0 : 0 ≤ l) (h1 : l ≤ h) (h2 : h ≤ len) (hc : len ≤ cap)
    (hl : (lo = none ∧ l = 0) ∨ ∃ k, lo = some (.int k l)) (hh : (hi = none ∧ h = len) ∨ ∃ k, hi = some (.int k h)) (w : World) :
    (Instr.sliceBounds isSlice len cap lo hi none).run P w = .ok (l.toNat, h.toNat, cap) w := by
  have b1 : 0 ≤ h ∧ h ≤ (cap : Int) := ⟨by omega, by omega⟩
  rcases hl with ⟨rfl, rfl⟩ | ⟨k, rfl⟩ <;> rcases hh with ⟨rfl, rfl⟩ | ⟨k', rfl⟩
  · simp [Instr.sliceBounds]
  · simp [Instr.sliceBounds, Instr.sliceBound, asIntOf, b1]
  · have b2 : 0 ≤ l ∧ l ≤ (len : Int) := ⟨h0, h1⟩
    simp [Instr.sliceBounds, Instr.sliceBound, asIntOf, b2]
  · have b2 : 0 ≤ l ∧ l ≤ (h.toNat : Int) := ⟨h0, by omega⟩
    simp [Instr.sliceBounds, Instr.sliceBound, asIntOf, b1, b2]
    intro hx; omega

theorem p_sliceS {x : Opd} {lo hi : Option Opd} (hm : matchOp P o.op (.sliceS x lo hi) = true) (hS : SlotsOk g s a.tmps) (h : prim c n0 s H (.sliceS x lo hi) = some (v, H')) : Still P a o w g v H H' := by
  simp only [matchOp] at hm
  split at hm
  · next t x' lo' hi' hop =>
    simp only [Bool.and_eq_true] at hm
    obtain ⟨⟨⟨h1, h2⟩, h3⟩, h4⟩ := hm
    split at h1
    · next hu =>
      simp only [prim] at h
      split at h
      · next b hp =>
        split at h
        · next l hh hl hr =>
          split at h
          · next hb =>
            simp at h; obtain ⟨rfl, rfl⟩ := h
            have ex := V_lit (ev_V hS h2 hp)
            have q1 : ((lo'.map a.eval) = none ∧ l = 0) ∨ ∃ k, (lo'.map a.eval) = some (.int k l) := by
              rcases bnd_run h3 hS hl with ⟨e1, e2⟩ | ⟨x2, k, e1, e2⟩
              · exact .inl ⟨by simp [e1], e2⟩
              · exact .inr ⟨k, by simp [e1, e2]⟩
            have q2 : ((hi'.map a.eval) = none ∧ hh = b.size) ∨ ∃ k, (hi'.map a.eval) = some (.int k hh) := by
              rcases bnd_run h4 hS hr with ⟨e1, e2⟩ | ⟨x2, k, e1, e2⟩
              · exact .inl ⟨by simp [e1], e2⟩
              · exact .inr ⟨k, by simp [e1, e2]⟩
            have hrun := run_sliceBounds (P := P) (isSlice := false) hb.1 hb.2.1 hb.2.2 (Nat.le_refl _) q1 q2 w
            refine ⟨rfl, _, ?_, V_of_lit rfl⟩
            simp [execOp, hop, Instr.sliceAt, run_underlying hu, ex, Instr.slice, hrun]
          · cases h
        · cases h
      · cases h
    · cases h1
  · cases hm
/-! ### keys of maps -/
theorem kindOf_und {t : TypeId} {k : Nat} (h : kindOf P t = some k) : (∃ q, P.underlying t = some (.int q)) ∨ P.underlying t = some .bool ∨ P.underlying t = some .string := by
  unfold kindOf at h
  split at h
  · exact .inl ⟨_, ‹_›⟩
  · exact .inr (.inl ‹_›)
  · exact .inr (.inr ‹_›)
  · cases h

theorem checkKey_simple {t : TypeId} {k : Nat} (h : kindOf P t = some k) (em : Bool) (d : Nat) (u : Value) (w : World) : (Instr.checkKey em (d + 1) t u).run P w = .ok () w := by
  rcases kindOf_und h with ⟨q, hu⟩ | hu | hu <;>
  · simp only [Instr.checkKey, Sem.run_bind, run_underlying hu, Result.andThen_ok]
    cases u <;> rfl

theorem checkKey_flat {t : TypeId} {ks : List Nat} (ht : flatEq P t ks = true) {xs : Array Value} (hx : xs.size = ks.length) (em : Bool) (d : Nat) (w : World) :
    (Instr.checkKey em (d + 2) t (.agg xs)).run P w = .ok () w := by
  unfold flatEq at ht
  simp only [Bool.and_eq_true] at ht
  obtain ⟨h0, h1⟩ := ht
  split at h1
  · next fs hu =>
    simp only [Bool.and_eq_true] at h1
    rw [Instr.checkKey]
    simp only [Sem.run_bind, run_underlying hu, Result.andThen_ok]
    rw [← Array.forIn_toList]
    have key : ∀ (l : List Field) (ks : List Nat) (i : Nat), fieldKinds P i l ks = true → i + ks.length ≤ xs.size →
        Sem.run P (forIn l PUnit.unit fun f r => if f.name ≠ "_" then do
          let a ← part f.type xs f.offset
          Instr.checkKey em (d + 1) f.type a
          pure (ForInStep.yield PUnit.unit)
        else pure (ForInStep.yield PUnit.unit)) w = .ok PUnit.unit w := by
      intro l
      induction l with
      | nil => intro ks i _ _; simp
      | cons f l ih =>
        intro ks i hf hi
        cases ks with
        | nil => simp [fieldKinds] at hf
        | cons k ks =>
          simp only [fieldKinds, Bool.and_eq_true] at hf
          obtain ⟨⟨⟨⟨a1, a2⟩, a3⟩, a4⟩, a5⟩ := hf
          have e1 : f.offset = i := by simpa using a1
          have e2 : f.name ≠ "_" := by simpa using a2
          have e4 : kindOf P f.type = some k := by simpa using a4
          simp at hi
          have p1 := run_part1 (P := P) a3 e4 (show i < xs.size by omega) w
          simp only [List.forIn_cons, if_pos e2, Sem.run_bind, e1, p1, Result.andThen_ok, checkKey_simple e4, Sem.run_pure]
          exact ih ks (i + 1) a5 (by omega)
    have := key fs.toList ks 0 h1.2 (by omega)
    simp at this ⊢
    rw [this]; rfl
  · next n e hu =>
    simp only [Bool.and_eq_true] at h1
    obtain ⟨⟨⟨a1, a2⟩, a3⟩, a4⟩ := h1
    have e1 : n = ks.length := by simpa using a1
    have e2 : P.cellsOf e = 1 := by simpa using a2
    rw [Instr.checkKey]
    simp only [Sem.run_bind, run_underlying hu, Result.andThen_ok]
    simp only [Std.Legacy.Range.forIn_eq_forIn_range', Std.Legacy.Range.size, Nat.sub_zero, Nat.add_one_sub_one, Nat.div_one]
    have key : ∀ (ks : List Nat) (i : Nat), (ks.all fun k => kindOf P e == some k) = true → i + ks.length ≤ xs.size →
        Sem.run P (forIn (List.range' i ks.length) PUnit.unit fun j r => do
          let z ← Go.sizeOf e
          let a ← part e xs (j * z)
          Instr.checkKey em (d + 1) e a
          pure (ForInStep.yield PUnit.unit)) w = .ok PUnit.unit w := by
      intro ks
      induction ks with
      | nil => intro i _ _; simp
      | cons k ks ih =>
        intro i hf hi
        simp only [List.all_cons, Bool.and_eq_true] at hf
        have e4 : kindOf P e = some k := by simpa using hf.1
        simp at hi
        have p1 := run_part1 (P := P) a3 e4 (show i < xs.size by omega) w
        simp only [List.length_cons, List.range'_succ, List.forIn_cons, Sem.run_bind, run_sizeOf (known_info a3), e2, Nat.mul_one, p1, Result.andThen_ok, checkKey_simple e4, Sem.run_pure]
        have := ih (i + 1) hf.2 (by omega)
        simpa [run_sizeOf (known_info a3), e2] using this
    have := key ks 0 a4 (by omega)
    rw [e1]
    simp at this ⊢
    rw [this]; rfl
  · cases h1

/-- A key, as the operations on maps take it. -/
structure KeyV (P : Program) (g : Ghost) (t : TypeId) (ag : Bool) (ks : List Nat) (cs : List AV) (u : Value) : Prop where
  check : ∀ (em : Bool) (w : World), (Instr.checkKey em 10000 t u).run P w = .ok () w
  eq : ∀ (l : List AV) (e : AV) (z : Value) (r : Bool) (w : World), V g e z → keyCells ag e = some l → kinds ks l = true → eqLits cs l = some r → (Op.equal t u z).run P w = .ok r w

theorem keyV {t : TypeId} {ag : Bool} {ks : List Nat} (ht : keyOk P t ag ks = true) {key : AV} {cs : List AV} {u : Value} (hV : V g key u) (hc : keyCells ag key = some cs) (hk : kinds ks cs = true) : KeyV P g t ag ks cs u := by
  cases ag with
  | true =>
    simp only [keyOk, if_true] at ht
    cases key <;> simp [keyCells] at hc
    subst hc
    obtain ⟨xs, rfl, hl, hx⟩ := V_agg hV
    have hlen := kinds_len hk
    refine ⟨fun em w => checkKey_flat ht (by omega) em 9998 w, ?_⟩
    intro l e z r w he hc' hk' hr
    cases e <;> simp [keyCells] at hc'
    subst hc'
    obtain ⟨ys, rfl, hl', hy⟩ := V_agg he
    exact flatEq_run ht hk hk' hr (fun j x hj => ⟨(hx j x hj).1, (hx j x hj).2.1⟩) (fun j x hj => ⟨(hy j x hj).1, (hy j x hj).2.1⟩) 9998 w
  | false =>
    simp only [keyOk, Bool.false_eq_true, if_false] at ht
    split at ht
    · next k =>
      have e4 : kindOf P t = some k := by simpa using ht
      cases key <;> simp [keyCells] at hc
      subst hc
      refine ⟨fun em w => checkKey_simple e4 em 9999 u w, ?_⟩
      intro l e z r w he hc' hk' hr
      cases e <;> simp [keyCells] at hc'
      subst hc'
      simp only [eqLits] at hr
      split at hr
      · next h1 => cases hr; exact eqLit_run e4 hk hk' h1 hV he 9999 w
      · next h1 => cases hr; exact eqLit_run e4 hk hk' h1 hV he 9999 w
      · cases hr
    · cases ht

/-- The search for a key. -/
theorem run_findKey {t : TypeId} {ag : Bool} {ks : List Nat} {cs : List AV} {u : Value} (hK : KeyV P g t ag ks cs u) (hu : (P.underlying t).isSome = true) (w : World) :
    ∀ (es : List (AV × AV)) (en : List MapEntry) (i : Nat) (r : Option (Nat × AV)), en.length = es.length → (∀ (j : Nat) (e : AV × AV), es[j]? = some e → ∃ m, en[j]? = some m ∧ V g e.1 m.key ∧ V g e.2 m.val) →
      findKey ag ks cs es i = some r →
      ∃ r', (Instr.findAsking t u en i).run P w = .ok r' w ∧ (match r with | none => r' = none | some (j, x) => ∃ z, r' = some (j, z) ∧ V g x z ∧ i ≤ j ∧ j < i + es.length)
  | [], en, i, r, hl, _, h => by
    cases en <;> simp at hl
    simp [findKey] at h; subst h
    exact ⟨none, by simp [Instr.findAsking], rfl⟩
  | e :: es, en, i, r, hl, he, h => by
    cases en with
    | nil => simp at hl
    | cons m en =>
      obtain ⟨m', h0, hk, hv⟩ := he 0 e rfl
      simp at h0; subst h0
      simp only [findKey] at h
      split at h
      · next l hc =>
        split at h
        · next hkk =>
          split at h
          · next hq =>
            cases h
            have := hK.eq l e.1 m.key true w hk hc hkk hq
            exact ⟨some (i, m.val), by simp [Instr.findAsking, this], m.val, rfl, hv, Nat.le_refl _, by simp⟩
          · next hq =>
            have := hK.eq l e.1 m.key false w hk hc hkk hq
            obtain ⟨r', hr', hm⟩ := run_findKey hK hu w es en (i + 1) r (by simpa using hl) (fun j e' hj => by simpa using he (j + 1) e' (by simpa using hj)) h
            refine ⟨r', by simp [Instr.findAsking, this, hr'], ?_⟩
            cases r with
            | none => exact hm
            | some x => obtain ⟨z, a1, a2, a3, a4⟩ := hm; exact ⟨z, a1, a2, by omega, by simp; omega⟩
          · cases h
        · cases h
      · cases h

theorem sameNow_run {t : TypeId} {d : TypeDesc} (hd : P.underlying t = some d) {u z : Value} {b : Bool} (h : Instr.sameNow d u z = some b) (w : World) : (Op.equal t u z).run P w = .ok b w := by
  unfold Instr.sameNow at h
  split at h
  · split at h
    · next hk => subst hk; cases h; exact run_equalIn_int w 9999 t _ _ _ _ hd
    · cases h
  · cases h
    rw [beq_toListBytes]
    exact run_equalIn_string w 9999 t _ _ hd
  · cases h; exact run_equalIn_bool' w 9999 t _ _ hd
  · cases h

theorem findNow_run {t : TypeId} {d : TypeDesc} (hd : P.underlying t = some d) {u : Value} (w : World) : ∀ (l : List MapEntry) (i : Nat) (r : Option (Nat × Value)), Instr.findNow d u l i = some r → (Instr.findAsking t u l i).run P w = .ok r w
  | [], i, r, h => by simp [Instr.findNow] at h; subst h; simp [Instr.findAsking]
  | e :: l, i, r, h => by
    simp only [Instr.findNow] at h
    split at h
    · next hs => cases h; simp [Instr.findAsking, sameNow_run hd hs w]
    · next hs => simpa [Instr.findAsking, sameNow_run hd hs w] using findNow_run hd w l (i + 1) r h
    · cases h

theorem run_findKey' {t : TypeId} (hu : (P.underlying t).isSome = true) {u : Value} (w : World) {l : List MapEntry} {r : Option (Nat × Value)} (h : (Instr.findAsking t u l 0).run P w = .ok r w) :
    (Instr.findKey t u l).run P w = .ok r w := by
  obtain ⟨d, hd⟩ := Option.isSome_iff_exists.1 hu
  simp only [Instr.findKey, Sem.run_bind, run_underlying hd, Result.andThen_ok]
  split
  · next q hq =>
    have := findNow_run hd w l 0 q hq
    rw [h] at this
    cases this; rfl
  · exact h

theorem keyOk_und {t : TypeId} {ag : Bool} {ks : List Nat} (ht : keyOk P t ag ks = true) : (P.underlying t).isSome = true := by
  cases ag with
  | true =>
    simp only [keyOk, if_true, flatEq, Bool.and_eq_true] at ht
    cases hu : P.underlying t with
    | none => simp [hu] at ht
    | some _ => rfl
  | false =>
    simp only [keyOk, Bool.false_eq_true, if_false] at ht
    split at ht
    · next k =>
      have e4 : kindOf P t = some k := by simpa using ht
      rcases kindOf_und e4 with ⟨q, hu⟩ | hu | hu <;> simp [hu]
    · cases ht

def found (z : AV) : Option (Nat × AV) → AV
  | some x => x.2
  | none => z

theorem p_lookup {z : AV} {ag ok : Bool} {ks : List Nat} {x y : Opd} (hm : matchOp P o.op (.lookup z ag ks x y ok) = true) (hR : Rel MC P B0 H g w) (hS : SlotsOk g s a.tmps) (h : prim c n0 s H (.lookup z ag ks x y ok) = some (v, H')) : Still P a o w g v H H' := by
  simp only [matchOp] at hm
  split at hm
  · next t m' i' ok' hop =>
    simp only [Bool.and_eq_true] at hm
    obtain ⟨⟨⟨h1, h2⟩, h3⟩, h4⟩ := hm
    have e0 : ok' = ok := by simpa using h2
    subst e0
    split at h1
    · next kt et hu =>
      simp only [Bool.and_eq_true] at h1
      obtain ⟨h1, h5⟩ := h1
      split at h5
      · next zv hz =>
        simp only [prim] at h
        split at h
        · next p key hp hq =>
          split at h
          · next es cs hes hcs =>
            split at h
            · next hk =>
              have hV := ev_V hS h4 hq
              have hK := keyV h1 hV hcs hk
              -- the entries
              have hent : ∃ en : Array MapEntry, ((a.eval m' = .map none ∧ en = #[]) ∨ ∃ β clock, a.eval m' = .map (some β) ∧ w.heap[β]? = some (.map en clock)) ∧
                  en.toList.length = es.length ∧ (∀ (j : Nat) (e : AV × AV), es[j]? = some e → ∃ m, en.toList[j]? = some m ∧ V g e.1 m.key ∧ V g e.2 m.val) := by
                have hVm := ev_V hS h3 hp
                split at hes
                · next b =>
                  obtain ⟨β, hL, en, clock, q1, q2, q3⟩ := hR.map hes
                  generalize a.eval m' = u at hVm ⊢
                  cases hVm with
                  | den _ _ hd => cases hd
                  | mp _ β' hL' =>
                    rw [hL] at hL'; cases hL'
                    refine ⟨en, .inr ⟨β, clock, rfl, q1⟩, by simpa using q2, fun j e hj => ?_⟩
                    obtain ⟨m, hm, r⟩ := q3 j e hj
                    exact ⟨m, by simpa using hm, r⟩
                · cases hes
                  exact ⟨#[], .inl ⟨V_lit hVm, rfl⟩, rfl, fun j e hj => by simp at hj⟩
                · cases hes
              obtain ⟨en, r1, r2, r3⟩ := hent
              obtain ⟨zi, hzi, hzz⟩ : ∃ zi, P.info? et = some zi ∧ zi.zero = some zv := by
                cases hi : P.info? et with
                | none => simp [hi] at hz
                | some zi => exact ⟨zi, rfl, by simpa [hi] using hz⟩
              have fin : ∀ (r : Option (Nat × AV)), findKey ag ks cs es 0 = some r → v = (if ok' then .tup [(found z r), .lit (.bool r.isSome)] else (found z r)) → H' = H → Still P a o w g v H H' := by
                intro r hr hv hH
                obtain ⟨r', hr', hm⟩ := run_findKey hK (keyOk_und h1) w es en.toList 0 r r2 r3 hr
                have hf := run_findKey' (keyOk_und h1) w hr'
                obtain ⟨q, hq1, hq2⟩ : ∃ q, ((r' = none ∧ q = zv ∧ r.isSome = false) ∨ (∃ j, r' = some (j, q) ∧ r.isSome = true)) ∧ V g (found z r) q := by
                  cases r with
                  | none => exact ⟨zv, .inl ⟨hm, rfl, rfl⟩, matchV_V g _ _ h5⟩
                  | some x => obtain ⟨j, y⟩ := x; obtain ⟨q, e, hq, _⟩ := hm; exact ⟨q, .inr ⟨j, e, rfl⟩, hq⟩
                refine ⟨hH, (if ok' then .tuple #[q, .bool r.isSome] else q), ?_, ?_⟩
                · have key : (Instr.lookup t (a.eval m') (a.eval i') ok').run P w = .ok (if ok' then .tuple #[q, .bool r.isSome] else q) w := by
                    rcases r1 with ⟨e1, rfl⟩ | ⟨β, clock, e1, e2⟩
                    · rw [e1]
                      simp only [Instr.lookup, Sem.run_bind, run_underlying hu, Result.andThen_ok, Sem.run_pure, hK.check, hf]
                      rcases hq1 with ⟨rfl, rfl, e3⟩ | ⟨j, rfl, e3⟩
                      · simp [zeroValue, typeInfo, hzi, hzz, e3]
                      · simp [e3]
                    · rw [e1]
                      simp only [Instr.lookup, Sem.run_bind, run_underlying hu, Result.andThen_ok, getObj, Sem.run, e2, Sem.run_pure, hK.check, hf]
                      rcases hq1 with ⟨rfl, rfl, e3⟩ | ⟨j, rfl, e3⟩
                      · simp [zeroValue, typeInfo, hzi, hzz, e3]
                      · simp [e3]
                  simp [execOp, hop, key]
                · rw [hv]
                  cases ok' with
                  | false => simpa using hq2
                  | true =>
                    refine .tup _ _ rfl (fun j x hj => ?_)
                    rcases j with _ | _ | j <;> simp at hj <;> subst hj
                    · simpa using hq2
                    · exact V_of_lit rfl
              split at h
              · next j val hr => simp at h; exact fin _ hr (by simp [found, h.1]) h.2.symm
              · next hr => simp at h; exact fin _ hr (by simp [found, h.1]) h.2.symm
              · cases h
            · cases h
          · cases h
        · cases h
      · cases h5
    · cases h1
  · cases hm
end
end Am
