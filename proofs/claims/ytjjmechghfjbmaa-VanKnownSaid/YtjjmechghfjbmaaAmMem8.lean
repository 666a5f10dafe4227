/- Maps that are written; strings that are gone through; copies. -/
import Derived.Test.YtjjmechghfjbmaaAmMem7
import Derived.RangeFuncRecord
set_option linter.unusedVariables false
set_option linter.unusedSimpArgs false
set_option linter.unnecessarySimpa false
namespace Am
open Go
section
variable {MC : Nat → Code → ACode → Prop} {P : Program} {B0 : Nat} {c : Sc} {n0 : Nat} {H H' : AHeap} {g : Ghost} {w : World} {s : Slots} {a : Act} {o : Oper} {v : AV}

theorem putObj_same (w : World) {β : Nat} (ob : Obj) (h : β < w.heap.size) : (w.putObj β ob).heap[β]? = some ob := by
  simp [World.putObj, h]
theorem putObj_other (w : World) {β γ : Nat} (ob : Obj) (h : γ ≠ β) : (w.putObj β ob).heap[γ]? = w.heap[γ]? := by
  simp [World.putObj, Array.getElem?_setIfInBounds_ne (Ne.symm h)]

/-- A block that is no block of cells turns. -/
theorem Rel.put (hR : Rel MC P B0 H g w) {b : Nat} {ob : AO} (hb : H[b]? = some ob) (hw : ob.isW = true) {β : Nat} (hL : (g.L b).blk = some β) (hno : ∀ off, w.cell? ⟨β, off, none⟩ = none) (new : Obj) {o' : AO}
    (hbox : BoxOk MC P g (w.putObj β new) o'.rd (g.L b)) :
    Rel MC P B0 (H.set b o') g (w.putObj β new) ∧ Ext H g w (H.set b o') g (w.putObj β new) := by
  have hi := (List.getElem?_eq_some_iff.1 hb).1
  have eL : updL g.L b (g.L b) = g.L := by funext j; simp only [updL]; split; (next e => rw [e]); rfl
  have hΦ : ∀ off u, g.Φ β off = some u → False := fun off u h => by have := hR.phi _ _ _ h; rw [hno] at this; cases this
  have := hR.upd hi (.inl ⟨ob, hb, hw⟩) (o' := o') (gb' := g.L b) (Φ' := g.Φ) (w' := w.putObj β new) rfl rfl rfl (by simp [World.putObj])
    (fun γ hγ hne => putObj_other w _ (fun e => hne (by rw [hL, e]))) (GB.le_refl _) (fun γ hγ => ⟨.inl hγ, by have := (hR.base b γ hγ).2; simpa [World.putObj] using this⟩) (fun _ _ _ h => h) (fun _ _ _ _ => rfl)
    (fun γ off u h => by
      by_cases e : γ = β
      · subst e; exact (hΦ _ _ h).elim
      · have e2 : (w.putObj β new).cell? ⟨γ, off, none⟩ = w.cell? ⟨γ, off, none⟩ := World.cell?_of_block (putObj_other w new e)
        rw [e2]; exact hR.phi γ off u h) (by rw [eL]; exact hbox)
  rw [eL] at this
  exact this

theorem m_next {x : Opd} (hm : matchOp P o.op (.next x) = true) (hR : Rel MC P B0 H g w) (hS : SlotsOk g s a.tmps) (h : prim c n0 s H (.next x) = some (v, H')) : Does MC P B0 a o [] H g w v H' := by
  simp only [matchOp] at hm
  split at hm
  · next x' str hop =>
    simp only [Bool.and_eq_true] at hm
    obtain ⟨rfl, h2⟩ := hm
    simp only [prim] at h
    split at h
    · next b hp =>
      have hV := ev_V hS h2 hp
      split at h
      · next t pos hg =>
        have hb : H[b]? = some (.iter t pos) := hg
        generalize hev : a.eval x' = u at hV
        cases hV with
        | den _ _ hd => cases hd
        | itr _ β hL =>
          have hbox := hR.box b _ hb
          simp only [AO.rd, hL] at hbox
          have hobj : w.heap[β]? = some (.stringIter t pos) := hbox
          have hlt : β < w.heap.size := (Array.getElem?_eq_some_iff.1 hobj).1
          split at h
          · next hpos =>
            simp at h; obtain ⟨rfl, rfl⟩ := h
            have := hR.put hb rfl (β := β) (by rw [hL]; rfl) (fun off => by simp [World.cell?, hobj]) (.stringIter t (pos + (Utf8.decode t pos).2)) (o' := .iter t (pos + (Utf8.decode t pos).2))
              (by rw [hL]; exact putObj_same w _ hlt)
            refine ⟨.tuple #[.bool true, .int .i64 pos, .int .i32 (Utf8.decode t pos).1], _, g, .inl ?_, ?_, this.1, this.2, by simp [hset], fun i _ h => h⟩
            · simp [execOp, hop, hev, Instr.next, getObj, setObj, Sem.run, hobj, hpos, World.putObj, goInt]
            · refine .tup _ _ rfl (fun j x hj => ?_)
              rcases j with _ | _ | _ | j <;> simp at hj <;> subst hj <;> exact V_of_lit rfl
          · next hpos =>
            simp at h; obtain ⟨rfl, rfl⟩ := h
            refine ⟨.tuple #[.bool false], w, g, .inl ?_, ?_, hR, Ext.refl _ _ _, rfl, fun i _ h => h⟩
            · simp [execOp, hop, hev, Instr.next, getObj, Sem.run, hobj, hpos]
            · refine .tup _ _ rfl (fun j x hj => ?_)
              rcases j with _ | j <;> simp at hj
              subst hj; exact V_of_lit rfl
      · cases h
    · cases h
  · cases hm

/-! ### maps -/
theorem eqLit_bits {x y : AV} {u z : Value} (h : eqLit x y = some true) (hx : V g x u) (hy : V g y z) (n : Nat) : Instr.sameBits n z u = true := by
  unfold eqLit at h
  split at h
  · split at h
    · next hk =>
      subst hk
      have e1 := V_lit hx; have e2 := V_lit hy
      subst e1 e2
      have : ‹Int› = ‹Int› := rfl
      cases n <;> simp [Instr.sameBits] <;> (simp at h; exact h.symm)
    · cases h
  · have e1 := V_lit hx; have e2 := V_lit hy
    subst e1 e2
    cases n <;> simp [Instr.sameBits] <;> (simp at h; exact h.symm)
  · have e1 := V_lit hx; have e2 := V_lit hy
    subst e1 e2
    simp at h
    have : ∀ (a b : ByteArray), a.data = b.data → a = b := fun a b h => by cases a; cases b; simp at h; rw [h]
    have e3 := this _ _ h
    subst e3
    cases n <;> (simp only [Instr.sameBits]; rw [beq_toListBytes]; simp)
  · cases h

theorem eqLits_at : ∀ {l m : List AV}, eqLits l m = some true → l.length = m.length ∧ ∀ (j : Nat) x y, l[j]? = some x → m[j]? = some y → eqLit x y = some true
  | [], [], _ => ⟨rfl, fun j x y h => by simp at h⟩
  | [], _ :: _, h => by simp [eqLits] at h
  | _ :: _, [], h => by simp [eqLits] at h
  | x :: l, y :: m, h => by
    simp only [eqLits] at h
    split at h
    · next h1 =>
      obtain ⟨q1, q2⟩ := eqLits_at h
      refine ⟨by simp [q1], fun j x' y' hx hy => ?_⟩
      cases j with
      | zero => simp at hx hy; subst hx hy; exact h1
      | succ j => exact q2 j x' y' (by simpa using hx) (by simpa using hy)
    · cases h
    · cases h

theorem findKey_at {ag : Bool} {ks : List Nat} {cs : List AV} : ∀ {es : List (AV × AV)} {i j : Nat} {x : AV}, findKey ag ks cs es i = some (some (j, x)) →
    i ≤ j ∧ ∃ e l, es[j - i]? = some e ∧ e.2 = x ∧ keyCells ag e.1 = some l ∧ kinds ks l = true ∧ eqLits cs l = some true
  | [], i, j, x, h => by simp [findKey] at h
  | e :: es, i, j, x, h => by
    simp only [findKey] at h
    split at h
    · next l hc =>
      split at h
      · next hk =>
        split at h
        · next hq =>
          simp at h; obtain ⟨rfl, rfl⟩ := h
          exact ⟨Nat.le_refl _, e, l, by simp, rfl, hc, hk, hq⟩
        · obtain ⟨q1, e', l', q2, q3⟩ := findKey_at h
          refine ⟨by omega, e', l', ?_, q3⟩
          rw [show j - i = (j - (i + 1)) + 1 by omega]; simpa using q2
        · cases h
      · cases h
    · cases h

theorem key_bits {ag : Bool} {cs l : List AV} {key e : AV} {u z : Value} (hc : keyCells ag key = some cs) (he : keyCells ag e = some l) (hq : eqLits cs l = some true) (hu : V g key u) (hz : V g e z) : Instr.sameBits 10000 z u = true := by
  obtain ⟨hl, hat⟩ := eqLits_at hq
  cases ag with
  | true =>
    cases key <;> simp [keyCells] at hc
    cases e <;> simp [keyCells] at he
    subst hc he
    obtain ⟨us, rfl, h1, h2⟩ := V_agg hu
    obtain ⟨zs, rfl, h3, h4⟩ := V_agg hz
    simp only [Instr.sameBits, Bool.and_eq_true]
    refine ⟨by simp; omega, List.all_eq_true.2 fun p hp => ?_⟩
    obtain ⟨j, hj⟩ := List.getElem?_of_mem hp
    have hjl := (List.getElem?_eq_some_iff.1 hj).1
    simp at hjl
    have e1 := h2 j _ (List.getElem?_eq_getElem (by omega))
    have e2 := h4 j _ (List.getElem?_eq_getElem (by omega))
    have h5 := hat j _ _ (List.getElem?_eq_getElem (by omega)) (List.getElem?_eq_getElem (by omega))
    have := eqLit_bits h5 e1.2.1 e2.2.1 9999
    have hp' : p = (zs[j], us[j]) := by
      have := (List.getElem?_eq_some_iff.1 hj).2
      rw [← this]; simp
    subst hp'
    have f1 : j < zs.size := by omega
    have f2 : j < us.size := by omega
    simpa [f1, f2] using this
  | false =>
    cases key <;> simp [keyCells] at hc
    cases e <;> simp [keyCells] at he
    subst hc he
    exact eqLit_bits (hat 0 _ _ rfl rfl) hu hz 10000

theorem m_mupd {ag : Bool} {ks : List Nat} {x y z : Opd} (hm : matchOp P o.op (.mupd ag ks x y z) = true) (hR : Rel MC P B0 H g w) (hS : SlotsOk g s a.tmps) (h : prim c n0 s H (.mupd ag ks x y z) = some (v, H')) : Does MC P B0 a o [] H g w v H' := by
  simp only [matchOp] at hm
  split at hm
  · next t m' k' v' hop =>
    simp only [Bool.and_eq_true] at hm
    obtain ⟨⟨⟨h1, h2⟩, h3⟩, h4⟩ := hm
    split at h1
    · next kt et hu =>
      simp only [prim] at h
      split at h
      · next b key val hp hq hr =>
        split at h
        · next es cs hes hcs =>
          split at h
          · next hk =>
            simp only [Bool.and_eq_true] at hk
            obtain ⟨⟨hk, _⟩, _⟩ := hk
            have hVk := ev_V hS h3 hq
            have hVv := ev_V hS h4 hr
            have hK := keyV h1 hVk hcs hk
            have hVm := ev_V hS h2 hp
            have hb := hmapW_get hes
            have hbox := hR.box b _ hb
            simp only [AO.rd] at hbox
            generalize hem : a.eval m' = u at hVm
            cases hVm with
            | den _ _ hd => cases hd
            | mp _ β hL =>
              rw [hL] at hbox
              obtain ⟨en, clock, q1, q2, q3⟩ := hbox
              have hlt : β < w.heap.size := (Array.getElem?_eq_some_iff.1 q1).1
              have hfind : ∀ r, findKey ag ks cs es 0 = some r → ∃ r', (Instr.findKey kt (a.eval k') en.toList).run P w = .ok r' w ∧ (match r with | none => r' = none | some (j, x) => ∃ z, r' = some (j, z) ∧ V g x z ∧ 0 ≤ j ∧ j < 0 + es.length) := by
                intro r hr
                obtain ⟨r', hr', hm⟩ := run_findKey hK (keyOk_und h1) w es en.toList 0 r (by simpa using q2) (fun j e hj => by obtain ⟨m, hm, r⟩ := q3 j e hj; exact ⟨m, by simpa using hm, r⟩) hr
                exact ⟨r', run_findKey' (keyOk_und h1) w hr', hm⟩
              have fin : ∀ (en' : Array MapEntry) (clock' : Nat) (es' : List (AV × AV)), (Instr.mapUpdate t (.map (some β)) (a.eval k') (a.eval v')).run P w = .ok () (w.putObj β (.map en' clock')) → en'.size = es'.length →
                  (∀ (i : Nat) (e : AV × AV), es'[i]? = some e → ∃ m : MapEntry, en'[i]? = some m ∧ V g e.1 m.key ∧ V g e.2 m.val) → Does MC P B0 a o [] H g w (.tup []) (hset H b (.map es')) := by
                intro en' clock' es' hrun h5 h6
                have := hR.put hb rfl (β := β) (by rw [hL]; rfl) (fun off => by simp [World.cell?, q1]) (.map en' clock') (o' := .map es') (by
                  rw [hL]; exact ⟨en', clock', putObj_same w _ hlt, h5, h6⟩)
                refine ⟨undef, _, g, .inr ⟨?_, rfl⟩, V_skip _, this.1, this.2, by simp [hset], fun i _ h => h⟩
                simp [execOp, hop, hem, hrun]
              have hkc := hK.check false w
              split at h
              · next j xx hr =>
                simp at h; obtain ⟨rfl, rfl⟩ := h
                obtain ⟨r', e1, zz, rfl, e3, _, e5⟩ := hfind _ hr
                obtain ⟨_, e, l, f1, _, f3, f4, f5⟩ := findKey_at hr
                simp only [Nat.sub_zero] at f1
                obtain ⟨m, m1, m2, m3⟩ := q3 j e f1
                have hbits := key_bits hcs f3 f5 hVk m2
                refine fin (en.modify j fun e => { e with key := a.eval k', val := a.eval v' }) clock _ ?_ (by simp [q2]) (fun i e' hi => ?_)
                · simp [Instr.mapUpdate, run_underlying hu, getObj, setObj, Sem.run, q1, hkc, e1, m1, Instr.keyThatStays, hbits, World.putObj]
                · rw [List.getElem?_set] at hi
                  by_cases e6 : j = i
                  · subst e6
                    rw [if_pos rfl, if_pos (by omega)] at hi
                    cases hi
                    exact ⟨{ m with key := a.eval k', val := a.eval v' }, by simp [Array.getElem?_modify, m1], hVk, hVv⟩
                  · rw [if_neg e6] at hi
                    obtain ⟨m4, m5, m6⟩ := q3 i e' hi
                    exact ⟨m4, by rw [Array.getElem?_modify, if_neg e6]; exact m5, m6⟩
              · next hr =>
                simp at h; obtain ⟨rfl, rfl⟩ := h
                obtain ⟨r', e1, e2⟩ := hfind _ hr
                simp only at e2
                subst e2
                refine fin (en.push { key := a.eval k', val := a.eval v', born := clock }) (clock + 1) _ ?_ (by simp [q2]) (fun i e' hi => ?_)
                · simp [Instr.mapUpdate, run_underlying hu, getObj, setObj, Sem.run, q1, hkc, e1, World.putObj]
                · rw [List.getElem?_append] at hi
                  split at hi
                  · next h7 =>
                    obtain ⟨m4, m5, m6⟩ := q3 i e' hi
                    exact ⟨m4, by rw [Array.getElem?_push]; rw [if_neg (by omega)]; exact m5, m6⟩
                  · next h7 =>
                    have hi0 : i - es.length = 0 := by
                      have := (List.getElem?_eq_some_iff.1 hi).1
                      simpa using this
                    rw [hi0] at hi
                    simp at hi; subst hi
                    exact ⟨{ key := a.eval k', val := a.eval v', born := clock }, by rw [Array.getElem?_push]; rw [if_pos (by omega)], hVk, hVv⟩
              · cases h
          · cases h
        · cases h
      · cases h
    · cases h1
  · cases hm

theorem m_copy {k : Nat} {x y : Opd} (hm : matchOp P o.op (.copy k x y) = true) (hR : Rel MC P B0 H g w) (hS : SlotsOk g s a.tmps) (h : prim c n0 s H (.copy k x y) = some (v, H')) : Does MC P B0 a o [] H g w v H' := by
  simp only [matchOp] at hm
  split at hm
  · next args argTypes hop =>
    split at hm
    · next d' x' t u hargs htys =>
      simp only [Bool.and_eq_true] at hm
      obtain ⟨⟨h1, h2⟩, h3⟩ := hm
      split at h1
      · next e hsl =>
        simp only [Bool.and_eq_true] at h1
        obtain ⟨⟨c1, c2⟩, c3⟩ := h1
        have ht := sliceOf_spec hsl
        have hk : P.cellsOf e = k := by simpa using c1
        have hpos : 0 < k := by simpa using c3
        have hargs' : args = #[d', x'] := by apply Array.ext'; simpa using hargs
        have htys' : argTypes = #[t, u] := by apply Array.ext'; simpa using htys
        subst hargs' htys'
        have hex : ∀ y w', (Builtin.copy_ #[t, u] o.type #[a.eval d', a.eval x']).run P w = .ok y w' → (execOp a.eval o).run P w = .ok (.value y) w' := by
          intro y w' hy
          unfold execOp
          simp only [hop, resolve, invoke, builtin, Sem.run_bind, Sem.run_pure, Result.andThen_ok, List.map_toArray, List.map_cons, List.map_nil, hy]
        simp only [prim] at h
        split at h
        · next b n xv hd hx =>
          split at h
          · next kk rows src k' hc hrow hko =>
            split at h
            · next hcond =>
              simp only [Bool.and_eq_true] at hcond
              obtain ⟨⟨⟨d1, d2⟩, d3⟩, hfr⟩ := hcond
              have d1' : rows.length = n := Nat.eq_of_beq_eq_true d1
              have d2' : kk = k := Nat.eq_of_beq_eq_true d2
              have d3' : k = k' := Nat.eq_of_beq_eq_true d3
              subst d1' d2' d3'
              simp at h; obtain ⟨rfl, rfl⟩ := h
              obtain ⟨ad, cp, hux, hread⟩ := readRows hR (ev_V hS h3 hx) hrow hko hfr hpos
              obtain ⟨news, hn1, hn2, hn3, hn4, hn5⟩ := hread (min src.length rows.length) (Nat.min_le_left _ _)
              obtain ⟨v0, hL, hbox⟩ := hR.arrW hc
              have hsl := arr_slen hbox
              have hud := arr_alias (ev_V hS h2 hd) hL hsl
              rw [hux] at hn1
              rw [hux, hud] at hex
              have hb := harrW_get hc
              simp only at hb
              obtain ⟨_, hk0, hlen, h0⟩ := hbox
              rcases h0 with ⟨rfl, rfl⟩ | ⟨β, cp0, e', cur, rfl, a5, a6, a7, a8, a9, a10, a11⟩
              · simp at hn1 hn2
                refine ⟨_, w, g, .inl (hex (.int .i64 (min src.length 0 : Nat)) w ?_), V_of_lit rfl, ?_, ?_, by simp [hset], fun i _ h => h⟩
                · simp [Builtin.copy_, run_underlying ht, Builtin.lenOf, run_sizeOf (known_info c2), hk, hn1, goInt]
                · simp [hset]; rw [set_same hb]; exact hR
                · simp [hset]; rw [set_same hb]; exact Ext.refl _ _ _
              · generalize hq : min src.length rows.length = q at *
                have hql : q ≤ rows.length := by omega
                have hqs : q ≤ src.length := by omega
                have hsz : q * kk ≤ cur.size := by rw [a8]; exact Nat.mul_le_mul_right _ (by omega)
                have hst := run_storeCells_at P β 0 e' news.toList 0 cur w a7 (by simp [hn2]; omega) hn3
                simp only [Nat.add_zero, Nat.zero_add, List.take_zero, List.nil_append] at hst
                have get : ∀ j, ((news.toList ++ cur.toList.drop news.toList.length).toArray)[j]? = if j < q * kk then news[j]? else cur[j]? := by
                  intro j
                  simp only [List.getElem?_toArray]
                  rw [List.getElem?_append]
                  simp only [Array.length_toList, hn2]
                  split
                  · simp
                  · next h2 =>
                    rw [List.getElem?_drop]; simp
                    congr 1; omega
                have eL : updL g.L b (g.L b) = g.L := by funext j; simp only [updL]; split; (next e => rw [e]); rfl
                have hW := hR.write (b := b) ⟨_, hb, rfl⟩ (by rw [hL]; rfl) a7 (news.toList ++ cur.toList.drop news.toList.length).toArray
                  (o' := .arr kk false (src.take q ++ rows.drop q)) (gb' := g.L b) (GB.le_refl _) (by rw [hL]; rfl) (fun off hs => by rw [a10 rfl off] at hs; cases hs)
                  (Φ' := g.Φ) (fun _ _ _ => rfl) (fun _ _ h => h) (fun off u h => by rw [a10 rfl off] at h; cases h) (by
                    have hl2 : (src.take q ++ rows.drop q).length = rows.length := by simp; omega
                    rw [hL]
                    refine ⟨rfl, hk0, fun r hr => ?_, .inr ⟨β, cp0, e', _, by rw [hl2], by omega, a6, setRow_heap w _ cur _ e' (0, 0) a7, ?_, fun i r j x hi hj => ?_, fun _ off => a10 rfl off, by simp⟩⟩
                    · rcases List.mem_append.1 hr with h | h
                      · exact hn4 r (List.mem_of_mem_take h)
                      · exact hlen r (List.mem_of_mem_drop h)
                    · simp [hn2]; omega
                    · rw [get]
                      rw [List.getElem?_append] at hi
                      have htl : (src.take q).length = q := by simp; omega
                      rw [htl] at hi
                      split at hi
                      · next hiq =>
                        rw [List.getElem?_take_of_lt hiq] at hi
                        have hjk : j < kk := by have h1 := (List.getElem?_eq_some_iff.1 hj).1; have h2 := hn4 r (List.mem_of_getElem? hi); omega
                        have := mul_lt_of (k := kk) hiq
                        rw [if_pos (by omega)]
                        obtain ⟨u, e1, e2⟩ := hn5 i r j x hiq hi hj
                        exact ⟨u, e1, e2⟩
                      · next hiq =>
                        rw [List.getElem?_drop] at hi
                        rw [show q + (i - q) = i by omega] at hi
                        have : q * kk ≤ i * kk := Nat.mul_le_mul_right _ (by omega)
                        rw [if_neg (by omega)]
                        obtain ⟨u, e1, e2⟩ := a9 i r j x hi hj
                        exact ⟨u, e1, e2⟩)
                rw [eL] at hW
                refine ⟨_, _, g, .inl (hex (.int .i64 (q : Nat)) _ ?_), V_of_lit rfl, hW.1, hW.2, by simp [hset], fun i _ h => h⟩
                have hmin : Nat.min src.length rows.length = q := hq
                simp [Builtin.copy_, run_underlying ht, Builtin.lenOf, run_sizeOf (known_info c2), hk, hmin, hn1, goInt, hst]
            · cases h
          · cases h
        · cases h
      · cases h1
    · cases hm
  · cases hm
end
end Am
