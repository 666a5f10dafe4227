/- Calls; and all together. -/
import Derived.Test.YtjjmechghfjbmaaAmCode
set_option linter.unusedVariables false
set_option linter.unusedSimpArgs false
set_option linter.unnecessarySimpa false
namespace Am
open Go

theorem argSlots_get : ∀ (l : List AV) (i t : Nat) (v : AV), sget (argSlots i l) t = some v → i ≤ t ∧ l[t - i]? = some v
  | [], i, t, v, h => by simp [argSlots, sget] at h
  | x :: l, i, t, v, h => by
    simp only [argSlots, sget] at h
    cases hb : Nat.beq i t with
    | true =>
      have := Nat.eq_of_beq_eq_true hb
      subst this
      simp [hb] at h; subst h
      simp
    | false =>
      simp only [hb, cond_false] at h
      obtain ⟨h1, h2⟩ := argSlots_get l (i + 1) t v h
      refine ⟨by omega, ?_⟩
      have e : t - i = (t - (i + 1)) + 1 := by omega
      rw [e]; simpa using h2

theorem zip_slots {g : Ghost} : ∀ (ps : List Nat) (args : List AV) (vs : List Value) (s : Slots) (tmps : Array Value), ps.length = args.length → vs.length = args.length → (∀ t ∈ ps, t < tmps.size) → (∀ (j : Nat) x, args[j]? = some x → V g x (vs[j]?.getD undef)) → SlotsOk g s tmps →
    SlotsOk g ((ps.zip args).foldl (fun s x => sput s (some x.1) x.2) s) ((ps.zip vs).foldl (fun tmps x => tmps.setIfInBounds x.1 x.2) tmps) ∧ ((ps.zip vs).foldl (fun tmps x => tmps.setIfInBounds x.1 x.2) tmps).size = tmps.size
  | [], args, vs, s, tmps, _, _, _, _, h => by simpa using h
  | p :: ps, [], vs, s, tmps, hl, _, _, _, h => by simp at hl
  | p :: ps, x :: args, [], s, tmps, _, hl, _, _, h => by simp at hl
  | p :: ps, x :: args, v :: vs, s, tmps, hl, hl2, hp, hV, h => by
    simp only [List.zip_cons_cons, List.foldl_cons]
    have h0 := SlotsOk.put (a := { tmps, defers := [] }) (dst := some p) (v := x) (x := v) h (hV 0 x rfl) (fun d hd => by cases hd; exact hp p (by simp))
    have := zip_slots ps args vs (sput s (some p) x) (tmps.setIfInBounds p v) (by simpa using hl) (by simpa using hl2) (fun t ht => by simpa using hp t (by simp [ht])) (fun j y hj => hV (j + 1) y hj) h0
    exact ⟨this.1, by rw [this.2]; simp⟩

section
variable {MC : Nat → Code → ACode → Prop} {P : Program} {B0 : Nat}

/-- Blocks that are nobody's, and hold no cells, turn. -/
theorem Rel.marks {H0 H : AHeap} {g0 g : Ghost} {w0 w w' : World} (hE : Ext H0 g0 w0 H g w) (hR : Rel MC P B0 H g w) {βs : List Nat} (hown : ∀ β ∈ βs, w0.heap.size ≤ β ∧ w.heap[β]? = some (.deferred (some [])) ∧ ∀ i, (g.L i).blk ≠ some β)
    (h1 : w'.os = w.os) (h2 : w'.tape = w.tape) (h3 : w'.output = w.output) (h4 : w'.heap.size = w.heap.size) (h5 : ∀ β, β ∉ βs → w'.heap[β]? = w.heap[β]?) : Rel MC P B0 H g w' ∧ Ext H0 g0 w0 H g w' := by
  refine ⟨⟨?_, ?_, hR.inj, ?_, hR.nolive, by rw [h4]; exact hR.b0⟩, ⟨hE.len, h1.trans hE.os, h2.trans hE.tape, h3.trans hE.output, by rw [h4]; exact hE.size, hE.le, hE.blk, hE.keep, hE.wit, ?_⟩⟩
  · intro β o v h
    have hc := hR.phi β o v h
    by_cases hb : β ∈ βs
    · have := (hown β hb).2.1
      simp [World.cell?, this] at hc
    · rw [World.cell?_of_block (h5 β hb)]; exact hc
  · intro i β h; rw [h4]; exact hR.base i β h
  · intro i o ho
    exact (hR.box i o ho).mono (Ghost.le_refl g) (fun β hb => ⟨h5 β (fun hm => (hown β hm).2.2 i hb), fun _ => rfl⟩)
  · intro β hβ hn
    obtain ⟨e1, e2⟩ := hE.frame β hβ hn
    exact ⟨(h5 β (fun hm => by have := (hown β hm).1; omega)).trans e1, e2⟩

theorem load_run {c : Sc} {n0 : Nat} {H H' : AHeap} {g : Ghost} {w : World} {s : Slots} {tmps : Array Value} {t : TypeId} {t' : Nat} {k : Option Nat} {v : AV} (hR : Rel MC P B0 H g w) (hS : SlotsOk g s tmps) (ht : sizeIs P t k = true) (hk : k ≠ some 0)
    (h : prim c n0 s H (.load k (.t t')) = some (v, H')) : ∃ x, (do loadVar t (← asAddr (tmps.getD t' undef)) : Sem Value).run P w = .ok x w ∧ V g v x := by
  have fin : ∀ p cs, sget s t' = some p → ptrCells H p = some cs → k.getD 1 ≤ cs.length → v = takeK k cs → ∃ x, (do loadVar t (← asAddr (tmps.getD t' undef)) : Sem Value).run P w = .ok x w ∧ V g v x := by
    intro p cs he hp hl hv
    have hne : cs ≠ [] := by
      intro e; subst e
      cases k with
      | none => simp at hl
      | some k => simp at hl; subst hl; exact hk rfl
    obtain ⟨x, hx, hV⟩ := hS t' p he
    obtain ⟨ad, e1, e2⟩ := ptrCells_holds hR hp hV hne
    obtain ⟨u, hu, hV⟩ := run_loadVar_holds ht e2 hl
    refine ⟨u, ?_, by rw [hv]; exact hV⟩
    have e3 : tmps.getD t' undef = .pointer (some ad) := by rw [← e1, Array.getD_eq_getD_getElem?, hx]; rfl
    simp [e3, asAddr, hu]
  cases k with
  | none =>
    simp only [prim, ev] at h
    split at h
    · next p he =>
      split at h
      · next u l hp => simp at h; exact fin p _ he hp (by simp) (by simp [takeK, h.1])
      · cases h
    · cases h
  | some k =>
    simp only [prim, ev] at h
    split at h
    · next p he =>
      split at h
      · next cs hp =>
        split at h
        · next hle => simp at h; exact fin p _ he hp (by simpa using hle) (by simp [takeK, h.1])
        · cases h
      · cases h
    · cases h

def resultOf (tmps : Array Value) : ResultVar → Sem Value
  | .tmp t => pure (tmps.getD t undef)
  | .cell a t => do loadVar t (← asAddr (tmps.getD a undef))

theorem results_list {H : AHeap} {g : Ghost} {w : World} {s : Slots} {tmps : Array Value} (hR : Rel MC P B0 H g w) (hS : SlotsOk g s tmps) : ∀ {l : List ResultVar} {m : List ARes} {rs : List AV}, matchResults P l m = true → Am.results s H m = some rs →
    ∃ us : List Value, (l.mapM (resultOf tmps)).run P w = .ok us w ∧ us.length = rs.length ∧ ∀ (j : Nat) x, rs[j]? = some x → V g x (us[j]?.getD undef)
  | [], [], rs, _, h => by
    simp only [Am.results, Option.some.injEq] at h
    subst h
    exact ⟨[], rfl, rfl, by simp⟩
  | [], _ :: _, rs, hm, h => by simp [matchResults] at hm
  | _ :: _, [], rs, hm, h => by simp [matchResults] at hm
  | x :: l, y :: m, rs, hm, h => by
    simp only [matchResults, Bool.and_eq_true] at hm
    have step : ∀ (v : AV) (rs' : List AV) (u : Value), (resultOf tmps x).run P w = .ok u w → V g v u → Am.results s H m = some rs' → rs = v :: rs' →
        ∃ us : List Value, ((x :: l).mapM (resultOf tmps)).run P w = .ok us w ∧ us.length = rs.length ∧ ∀ (j : Nat) x, rs[j]? = some x → V g x (us[j]?.getD undef) := by
      rintro v rs' u hu hV hr rfl
      obtain ⟨us, q1, q2, q3⟩ := results_list hR hS hm.2 hr
      refine ⟨u :: us, ?_, by simp [q2], fun j z hj => ?_⟩
      · rw [List.mapM_cons]
        simp [Sem.run_bind, hu, q1]
      · rcases j with _ | j
        · simp at hj; subst hj; exact hV
        · exact q3 j z (by simpa using hj)
    cases x with
    | tmp t =>
      cases y with
      | tmp t' =>
        have e : t = t' := by simpa [matchResult] using hm.1
        subst e
        simp only [Am.results, Option.bind_eq_some_iff, Option.map_eq_some_iff] at h
        obtain ⟨v, hv, rs', hr, rfl⟩ := h
        obtain ⟨u, hu, hV⟩ := hS t v hv
        exact step v rs' u (by simp [resultOf, Array.getD_eq_getD_getElem?, hu]) hV hr rfl
      | cell _ _ => simp [matchResult] at hm
    | cell a t =>
      cases y with
      | tmp _ => simp [matchResult] at hm
      | cell a' k =>
        have hm1 := hm.1
        simp only [matchResult, Bool.and_eq_true] at hm1
        obtain ⟨⟨e, h2⟩, h3⟩ := hm1
        have e : a = a' := by simpa using e
        subst e
        simp only [Am.results, Option.bind_eq_some_iff, Option.map_eq_some_iff] at h
        obtain ⟨v, hv, rs', hr, rfl⟩ := h
        obtain ⟨u, hu, hV⟩ := load_run hR hS h2 (by rintro rfl; simp at h3) (v := v.1) (H' := v.2) hv
        exact step v.1 rs' u hu hV hr rfl

theorem results_sound {H : AHeap} {g : Ghost} {w : World} {s : Slots} {tmps : Array Value} {fn : Func} {m : List ARes} {rs : List AV} (hR : Rel MC P B0 H g w) (hS : SlotsOk g s tmps) (hm : matchResults P fn.results.toList m = true) (h : Am.results s H m = some rs) :
    ∃ us : List Value, (Go.results fn tmps).run P w = .ok (packV us) w ∧ us.length = rs.length ∧ ∀ (j : Nat) x, rs[j]? = some x → V g x (us[j]?.getD undef) := by
  obtain ⟨us, q1, q2, q3⟩ := results_list hR hS hm h
  refine ⟨us, ?_, q2, q3⟩
  have e : Go.results fn tmps = (do let vs ← fn.results.mapM (resultOf tmps); pure (if h : vs.size = 1 then vs[0] else .tuple vs)) := by
    unfold Go.results
    congr 1
  rw [e, Array.mapM_eq_mapM_toList]
  have hmap : (Functor.map (fun l : List Value => l.toArray) (fn.results.toList.mapM (resultOf tmps))).run P w = .ok us.toArray w := by
    simp only [Sem.run_map, q1, Result.andThen_ok]
  simp only [Sem.run_bind]
  first
  | rw [hmap]
  | (have := hmap; simp only [Functor.map] at this ⊢; rw [this])
  simp only [Result.andThen, Sem.run_pure]
  rcases us with _ | ⟨u, _ | ⟨v, us⟩⟩
  · rfl
  · rfl
  · simp [packV]

theorem V_fn_inv {g : Ghost} {f : Fn} {fa fc : List AV} {u : Value} (h : V g (.fn f fa fc) u) : ∃ f' a' c', u = .func f' a' c' ∧ FnRel g f f' ∧ a'.size = fa.length ∧ c'.size = fc.length ∧ (∀ (j : Nat) x, fa[j]? = some x → V g x (a'[j]?.getD undef)) ∧ ∀ (j : Nat) x, fc[j]? = some x → V g x (c'[j]?.getD undef) := by
  cases h with
  | den _ _ hd => cases hd
  | fn _ f' _ _ a' c' hf l1 l2 h1 h2 => exact ⟨f', a', c', rfl, hf, l1, l2, h1, h2⟩

/-- A function that is called. -/
theorem fun_sound {M : Mach} {T : Tab} (hT : TabOk P T) (hC : CodeOK (MCof P) P B0 M) {c : Sc} {H H' : AHeap} {i : Nat} {fa args fc rs : List AV} (h : callStep T M c H (.fn (.func i) fa fc) args = some (rs, H')) {g : Ghost} {w : World} {as : Array Value}
    (hR : Rel (MCof P) P B0 H g w) (hS : ScOk c H) (hl : as.size = (fa ++ args ++ fc).length) (hV : ∀ (j : Nat) x, (fa ++ args ++ fc)[j]? = some x → V g x (as[j]?.getD undef)) :
    (∃ fn, P.funcs[i]? = some fn ∧ fn.body.isSome = true ∧ (fn.name != "runtime.NumGoroutine") = true) ∧
    ∀ cs, ∃ us w' g' fs fr, Steps P (lone (Frame.enter P i as .normal) cs w) (lone fr cs w') ∧ fr.fn = i ∧ fr.leaving P w' (.returned (packV us)) ∧ RVs g' rs us fs ∧ FsOk (MCof P) P g' w' (OkB B0 H g w) fs ∧ Rel (MCof P) P B0 H' g' w' ∧ Ext H g w H' g' w' ∧ ScOk c H' ∧ Unborn H g g' := by
  simp only [callStep] at h
  split at h
  · cases h
  · next af haf =>
    obtain ⟨fn, hfn, hm⟩ := hT i af haf
    simp only [matchFunc, Bool.and_eq_true] at hm
    obtain ⟨⟨⟨m1, m2⟩, m3⟩, m4⟩ := hm
    split at m2
    · next code hbody =>
      refine ⟨⟨fn, hfn, by simp [hbody], m1⟩, fun cs => ?_⟩
      split at h
      · next hna =>
        have hna' : as.size = af.nargs := by rw [hl]; exact Nat.eq_of_beq_eq_true hna
        have m3' : af.nargs ≤ fn.ntmps := by simpa using m3
        let b : Frame := { (default : Frame) with fn := i, kind := .normal, roundOf := none }
        let a : Act := { tmps := as ++ Array.replicate (fn.ntmps - as.size) undef, defers := [] }
        have henter : Frame.enter P i as .normal = b.atR a [.code code] := by
          simp [Frame.enter, Frame.atR, hfn, hbody, b, a]
        have hI : CInv (MCof P) P B0 fn.ntmps w.heap.size b.roundOf.isNone { s := argSlots 0 (fa ++ args ++ fc), H, c := ⟨H.length, c.cur :: c.outer⟩ } g a w := by
          refine ⟨hR, fun t v hv => ?_, by simp [a]; omega, hS.enter hR, fun _ => ⟨Nat.le_refl _, [], rfl, .nil, by simp⟩⟩
          obtain ⟨_, h2⟩ := argSlots_get _ _ _ _ hv
          simp only [Nat.sub_zero] at h2
          have hlt : t < as.size := by rw [hl]; exact (List.getElem?_eq_some_iff.1 h2).1
          refine ⟨as[t], by show (as ++ _)[t]? = some as[t]; rw [Array.getElem?_append_left hlt]; simp [hlt], ?_⟩
          have := hV t v h2
          simpa [hlt] using this
        have go : ∀ (e : Ex) (st : St), M.code af.body { s := argSlots 0 (fa ++ args ++ fc), H, c := ⟨H.length, c.cur :: c.outer⟩ } = some (e, st) → (e = .normal ∨ e = .ret) →
            (match Am.results st.s st.H af.results with | none => none | some rs => match outVs H.length st.H rs with | none => none | some (rs, H') => some (rs, trunc H.length rs H')) = some (rs, H') →
            ∃ us w' g' fs fr, Steps P (lone (Frame.enter P i as .normal) cs w) (lone fr cs w') ∧ fr.fn = i ∧ fr.leaving P w' (.returned (packV us)) ∧ RVs g' rs us fs ∧ FsOk (MCof P) P g' w' (OkB B0 H g w) fs ∧ Rel (MCof P) P B0 H' g' w' ∧ Ext H g w H' g' w' ∧ ScOk c H' ∧ Unborn H g g' := by
          intro e st hcode he hres
          obtain ⟨a1, g1, w1, q1, q2, q3, q4, q5⟩ := hC _ _ _ _ _ _ m2 hcode b a [] cs g w w.heap.size _ (.inl rfl) (.inl rfl) hI
          -- to the frame's way out
          have hout : ∃ todo, Steps P (lone (Frame.enter P i as .normal) cs w) (lone { b.atR a1 todo with mode := .returning } cs w1) := by
            rw [henter]
            rcases he with rfl | rfl
            · exact ⟨[], Steps.trans q1 (.one (stepR_end rfl))⟩
            · obtain ⟨k', hk⟩ := q1
              exact ⟨_, Steps.trans hk (.one (stepR_ret rfl))⟩
          obtain ⟨todo, hout⟩ := hout
          obtain ⟨_, βs, d1, d2, d3⟩ := q2.dl rfl
          obtain ⟨w2, t1, t2, t3, t4, t5, t6, t7⟩ := steps_marks (P := P) (cs := cs) βs { b.atR a1 todo with mode := .returning } w1 rfl d1 d2 (fun β hβ => (d3 β hβ).2.2.1)
          obtain ⟨r2, x2⟩ := Rel.marks q3 q2.rel (βs := βs) (fun β hβ => ⟨(d3 β hβ).1, (d3 β hβ).2.2.1, (d3 β hβ).2.2.2⟩) t2 t3 t4 t5 t6
          split at hres
          · cases hres
          · next rs0 hrs =>
            obtain ⟨us, u1, u2, u3⟩ := results_sound (fn := fn) r2 q2.slots m4 hrs
            split at hres
            · cases hres
            · next rs1 H1 ho =>
              simp only [Option.some.injEq, Prod.mk.injEq] at hres
              obtain ⟨rfl, rfl⟩ := hres
              obtain ⟨g2, fs, v1, v2, v3, v4⟩ := outVs_sound (lo := OkB B0 H g w) r2 (fun j hj β hb => by
                refine ⟨(r2.base j β hb).1, ?_⟩
                rcases x2.blk j β hb with h | h
                · rw [hR.nolive j hj] at h; simp [GB.blk] at h
                · exact h) u2 u3 ho
              have hsc1 : ScOk ⟨H.length, c.cur :: c.outer⟩ H1 := by
                have hq := q2.sc
                rw [q5] at hq
                exact outVs_sc hq ho
              have hun : Unborn H g g2 := fun j hj hn => v1.unb j (q4 j hj hn)
              have hleave : ({ b.atR a1 todo with mode := .returning, defers := [] } : Frame).leaving P w2 (.returned (packV us)) := ⟨rfl, rfl, rfl, fn, hfn, u1⟩
              by_cases hbd : bdL H.length rs1 = true
              · have htr : trunc H.length rs1 H1 = H1.take H.length := by simp [trunc, hbd]
                rw [htr]
                obtain ⟨y1, y2⟩ := Rel.take hR (x2.trans v1.ext) v1.rel (fun j hj o ho => hsc1.bd _ (by simp) j hj o ho)
                exact ⟨us, w2, _, fs, _, hout.trans t1, rfl, hleave, v2.cut hbd, v3.cut, y1, y2, (hsc1.leave hS.out).take hS.cur, hun.cut⟩
              · have htr : trunc H.length rs1 H1 = H1 := by simp [trunc, hbd]
                rw [htr]
                exact ⟨us, w2, g2, fs, _, hout.trans t1, rfl, hleave, v2, v3, v1.rel, x2.trans v1.ext, hsc1.leave hS.out, hun⟩
        split at h
        · next st hc => exact go _ _ hc (.inl rfl) h
        · next st hc => exact go _ _ hc (.inr rfl) h
        · cases h
      · cases h
    · cases m2

theorem loop_box {H : AHeap} {g : Ghost} {w : World} {l β : Nat} {f : Nat} {s : Slots} {ps : List Nat} {as bd : ACode} {busy : Bool} {pend : Option Ex} (hR : Rel (MCof P) P B0 H g w) (hL : g.L l = .loop β) (h : H[l]? = some (.loop f s ps as bd busy pend)) :
    ∃ r : Loop, w.heap[β]? = some (.loop r) ∧ r.state = (if busy then .busy else if pend.isNone then .ready else .done) ∧ r.pending = pend.bind jumpCode ∧ r.params = ps.toArray ∧ SlotsOk g s r.tmps ∧ MCof P r.tmps.size r.assign as ∧ MCof P r.tmps.size r.body bd ∧ ∀ t ∈ ps, t < r.tmps.size := by
  have := hR.box _ _ h
  simp only [AO.rd, hL] at this
  exact this

theorem yield_sound {M : Mach} {T : Tab} (hC : CodeOK (MCof P) P B0 M) {c : Sc} {H H' : AHeap} {l : Nat} {args rs : List AV} (h : callStep T M c H (.fn (.yield l) [] []) args = some (rs, H')) {g : Ghost} {w : World} {β : Nat} {vs : Array Value}
    (hR : Rel (MCof P) P B0 H g w) (hS : ScOk c H) (hL : g.L l = .loop β) (hl : vs.size = args.length) (hV : ∀ (j : Nat) x, args[j]? = some x → V g x (vs[j]?.getD undef)) :
    ∃ r : Loop, w.heap[β]? = some (.loop r) ∧ vs.size = r.params.size ∧
    ∀ fr cs, ∃ us w' g' fs, Steps P (lone (Frame.round β r.fn ((r.params.zip vs).foldl (fun tmps (t, a) => tmps.setIfInBounds t a) r.tmps) r.assign r.body .normal) (fr :: cs) w) (lone (fr.finish (packV us)) cs w') ∧ RVs g' rs us fs ∧ FsOk (MCof P) P g' w' (OkB B0 H g w) fs ∧ Rel (MCof P) P B0 H' g' w' ∧ Ext H g w H' g' w' ∧ ScOk c H' ∧ Unborn H g g' := by
  simp only [callStep] at h
  split at h
  · next f0 s0 ps as bd hH =>
    have hH' : H[l]? = some (.loop f0 s0 ps as bd false none) := hH
    obtain ⟨r, b1, b2, b3, b4, b5, b6, b7, b8⟩ := loop_box hR hL hH'
    have hll : l < H.length := (List.getElem?_eq_some_iff.1 hH').1
    split at h
    · next hpl =>
      have hpl' := Nat.eq_of_beq_eq_true hpl
      have hsz : vs.size = r.params.size := by rw [b4, hl, ← hpl']; simp
      refine ⟨r, b1, hsz, fun fr cs => ?_⟩
      obtain ⟨z1, z2⟩ := zip_slots ps args vs.toList s0 r.tmps hpl' (by simpa using hl) b8 (fun j x hj => by simpa using hV j x hj) b5
      have hfold : (r.params.zip vs).foldl (fun tmps (t, a) => tmps.setIfInBounds t a) r.tmps = (ps.zip vs.toList).foldl (fun tmps x => tmps.setIfInBounds x.1 x.2) r.tmps := by
        rw [← Array.foldl_toList]
        simp [b4, Array.toList_zip]
      let b : Frame := { (default : Frame) with fn := r.fn, kind := .normal, roundOf := some β }
      let a : Act := { tmps := (ps.zip vs.toList).foldl (fun tmps x => tmps.setIfInBounds x.1 x.2) r.tmps, defers := [] }
      have henter : Frame.round β r.fn ((r.params.zip vs).foldl (fun tmps (t, a) => tmps.setIfInBounds t a) r.tmps) r.assign r.body .normal = b.atR a [.code r.assign, .beginRound, .code r.body] := by
        simp only [hfold]; rfl
      have hbn : b.roundOf.isNone = false := rfl
      split at h
      · next st1 h1 =>
        obtain ⟨a1, g1, w1, q1, q2, q3, q4, q5⟩ := hC _ _ _ _ _ _ b6.1 h1 b a [.beginRound, .code r.body] (fr :: cs) g w 0 _ (.inl rfl) (.inr b6.2) ⟨hR, z1, z2, hS.enter hR, fun hf => by simp [hbn] at hf⟩
        have hL1 := le_loop q3.le hL
        split at h
        · next f1 s1 ps1 as1 bd1 hH1 =>
          have hH1' : st1.H[l]? = some (.loop f1 s1 ps1 as1 bd1 false none) := hH1
          obtain ⟨r1, c1, c2, c3, c4, c5, c6, c7, c8⟩ := loop_box q2.rel hL1 hH1'
          have hready : r1.state = .ready := by rw [c2]; rfl
          have hle1 : H.length ≤ st1.H.length := q3.len
          obtain ⟨p1, p2⟩ := q2.rel.put hH1' rfl (β := β) (by rw [hL1]; rfl) (loop_cell c1) (.loop { r1 with state := .busy }) (o' := .loop f1 s1 ps1 as1 bd1 true none) (by
            rw [hL1]
            exact ⟨{ r1 with state := .busy }, putObj_same _ _ (q2.rel.base l β (by rw [hL1]; rfl)).2, rfl, c3, c4, c5, c6, c7, c8⟩)
          have hbd1 : ∀ B ∈ st1.c.cur :: st1.c.outer, l < B → (AO.loop f1 s1 ps1 as1 bd1 true none).bdP B := fun B hB hlt => (by have := q2.sc.bd B hB l hlt _ hH1'; exact this)
          have hst1 : step P (lone (b.atR a1 [.beginRound, .code r.body]) (fr :: cs) w1) = .next (lone (b.atR a1 [.code r.body]) (fr :: cs) (w1.putObj β (.loop { r1 with state := .busy }))) := stepR_beginRound rfl (run_beginRound c1 hready)
          have hsz1 : a1.tmps.size = r.tmps.size := q2.size
          split at h
          · next e st2 h2 =>
            obtain ⟨a2, g2, w2, t1, t2, t3, t4, t5⟩ := hC _ _ _ _ _ _ b7.1 h2 b a1 [] (fr :: cs) g1 _ 0 _ (.inl rfl) (.inr b7.2) ⟨p1, q2.slots, hsz1, q2.sc.set l _ hbd1, fun hf => by simp [hbn] at hf⟩
            have hL2 := le_loop t3.le hL1
            split at h
            · next f2 s2 ps2 as2 bd2 hH2 =>
              have hH2' : st2.H[l]? = some (.loop f2 s2 ps2 as2 bd2 true none) := hH2
              obtain ⟨r2, e1, e2, e3, e4, e5, e6, e7, e8⟩ := loop_box t2.rel hL2 hH2'
              simp only [Option.some.injEq, Prod.mk.injEq] at h
              obtain ⟨rfl, rfl⟩ := h
              -- the round ends
              have fin : ∀ (jump : Option Code) (pend : Option Ex), jump = pend.bind jumpCode → (jump.isNone = pend.isNone) → Steps P (lone (b.atR a1 [.code r.body]) (fr :: cs) (w1.putObj β (.loop { r1 with state := .busy }))) (lone (fr.finish (.bool jump.isNone)) cs (w2.putObj β (.loop { r2 with state := if jump.isNone then .ready else .done, pending := jump }))) →
                  ∃ us w' g' fs, Steps P (lone (b.atR a [.code r.assign, .beginRound, .code r.body]) (fr :: cs) w) (lone (fr.finish (packV us)) cs w') ∧ RVs g' [.b pend.isNone] us fs ∧ FsOk (MCof P) P g' w' (OkB B0 H g w) fs ∧ Rel (MCof P) P B0 (trunc H.length [] (hset st2.H l (.loop f2 s2 ps2 as2 bd2 false pend))) g' w' ∧ Ext H g w (trunc H.length [] (hset st2.H l (.loop f2 s2 ps2 as2 bd2 false pend))) g' w' ∧ ScOk c (trunc H.length [] (hset st2.H l (.loop f2 s2 ps2 as2 bd2 false pend))) ∧ Unborn H g g' := by
                intro jump pend hj hjn hs
                obtain ⟨y1, y2⟩ := t2.rel.put hH2' rfl (β := β) (by rw [hL2]; rfl) (loop_cell e1) (.loop { r2 with state := if jump.isNone then .ready else .done, pending := jump }) (o' := .loop f2 s2 ps2 as2 bd2 false pend) (by
                  rw [hL2]
                  refine ⟨{ r2 with state := if jump.isNone then .ready else .done, pending := jump }, putObj_same _ _ (t2.rel.base l β (by rw [hL2]; rfl)).2, ?_, hj, e4, e5, e6, e7, e8⟩
                  simp [hjn])
                have hc2 : st2.c = ⟨H.length, c.cur :: c.outer⟩ := t5.trans q5
                have hsc2 : ScOk ⟨H.length, c.cur :: c.outer⟩ (hset st2.H l (.loop f2 s2 ps2 as2 bd2 false pend)) := hc2 ▸ t2.sc.set l _ (fun B hB hlt => (by have := t2.sc.bd B hB l hlt _ hH2'; exact this))
                have hE := ((q3.trans p2).trans t3).trans y2
                obtain ⟨x1, x2⟩ := Rel.take hR hE y1 (fun j hj o ho => hsc2.bd _ (by simp) j hj o ho)
                have htr : trunc H.length [] (hset st2.H l (.loop f2 s2 ps2 as2 bd2 false pend)) = (hset st2.H l (.loop f2 s2 ps2 as2 bd2 false pend)).take H.length := by simp [trunc, bdL]
                rw [htr]
                have hun : Unborn H g g2 := by
                  refine q4.trans (Unborn.trans (H1 := hset st1.H l (.loop f1 s1 ps1 as1 bd1 true none)) (Unborn.refl _ _) t4 (by simp [hset])) hle1 
                refine ⟨[.bool jump.isNone], _, _, [], (Steps.trans q1 (.head hst1 hs)), ?_, .nil, x1, x2, (hsc2.leave hS.out).take hS.cur, hun.cut⟩
                exact .cons _ _ [] _ _ [] (.one _ _ _ (by simp) (.val _ _ (by rw [hjn]; exact V_of_lit rfl))) .nil
              rw [henter]
              have hw2 : ∀ jump, (Instr.endRound β jump).run P w2 = .ok (.bool jump.isNone) (w2.putObj β (.loop { r2 with state := if jump.isNone then .ready else .done, pending := jump })) := fun jump => run_endRound jump e1
              cases e with
              | normal => exact fin none none rfl rfl (Steps.trans t1 (.one (stepR_round_end rfl rfl (hw2 none))))
              | exit id =>
                obtain ⟨k', hk1, hk2⟩ := t1
                exact fin (some (.exit id)) (some (.exit id)) rfl rfl (Steps.trans hk2 (.one (stepR_round_exit rfl rfl (by rw [hk1]; rfl) (hw2 (some (.exit id))))))
              | ret =>
                obtain ⟨k', hk2⟩ := t1
                exact fin (some .ret) (some .ret) rfl rfl (Steps.trans hk2 (.one (stepR_round_ret rfl rfl (hw2 (some .ret)))))
            · cases h
          · cases h
        · cases h
      · cases h
    · cases h
  · cases h

theorem call_step {M : Mach} {T : Tab} (hT : TabOk P T) (hC : CodeOK (MCof P) P B0 M) : CallOK (MCof P) P B0 ⟨fun c H f args => callStep T M c H f args, M.code⟩ := by
  intro c H f args rs H' h g w fv vs hR hS hf hl hV
  simp only at h
  cases f with
  | fn f fa fc =>
    obtain ⟨f', a', c', rfl, hfr, l1, l2, h1, h2⟩ := V_fn_inv hf
    cases f with
    | func i =>
      have : f' = .func i := hfr
      subst this
      have hl3 : (a' ++ vs ++ c').size = (fa ++ args ++ fc).length := by simp [l1, l2, hl]
      have hV3 : ∀ (j : Nat) x, (fa ++ args ++ fc)[j]? = some x → V g x ((a' ++ vs ++ c')[j]?.getD undef) := by
        intro j x hj
        rw [List.append_assoc] at hj
        rw [Array.append_assoc]
        by_cases hj1 : j < fa.length
        · rw [List.getElem?_append_left hj1] at hj
          rw [Array.getElem?_append_left (by omega)]
          exact h1 j x hj
        · rw [List.getElem?_append_right (by omega)] at hj
          rw [Array.getElem?_append_right (by omega), l1]
          by_cases hj2 : j - fa.length < args.length
          · rw [List.getElem?_append_left hj2] at hj
            rw [Array.getElem?_append_left (by omega)]
            exact hV _ x hj
          · rw [List.getElem?_append_right (by omega)] at hj
            rw [Array.getElem?_append_right (by omega), hl]
            exact h2 _ x hj
      obtain ⟨⟨fn, q1, q2, q3⟩, q4⟩ := fun_sound hT hC h hR hS hl3 hV3
      refine ⟨_, begins_fun q1 q2 q3 a' c' vs, fun fr cs => ?_⟩
      obtain ⟨us, w', g', fs, fr', p1, p2, p3, p4, p5, p6, p7, p8, p9⟩ := q4 (fr :: cs)
      exact ⟨us, w', g', fs, p1.trans (.one (step_leave_returned p3)), p4, p5, p6, p7, p8, p9⟩
    | yield l =>
      obtain ⟨β, hL, rfl⟩ := hfr
      have hnil : fa = [] ∧ fc = [] := by
        unfold callStep at h
        split at h
        · next heq => cases heq
        · next heq => cases heq; exact ⟨rfl, rfl⟩
        · cases h
      obtain ⟨rfl, rfl⟩ := hnil
      have ea : a' = #[] := by simpa using l1
      have ec : c' = #[] := by simpa using l2
      subst ea; subst ec
      obtain ⟨r, q1, q2, q3⟩ := yield_sound hC h hR hS hL hl hV
      exact ⟨_, begins_yield q1 q2, fun fr cs => q3 fr cs⟩
    | _ => exact hfr.elim
  | _ => simp [callStep] at h

/-- **The abstract machine is right.** -/
theorem mach_sound (hmix : P.follows .mixedOrders = true) {T : Tab} (hT : TabOk P T) : ∀ n, CodeOK (MCof P) P B0 (mach T n) ∧ CallOK (MCof P) P B0 (mach T n)
  | 0 => ⟨fun nt code ac st e st' _ h => (by simp [mach] at h), fun c H f args rs H' h => (by simp [mach] at h)⟩
  | n + 1 => by
    obtain ⟨hC, hM⟩ := mach_sound hmix hT n
    have h1 := code_step hmix hC hM
    have h2 := call_step hT hC
    exact ⟨h1, h2⟩
end
end Am
