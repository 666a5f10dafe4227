/- Code: all that the abstract machine does the program does. -/
import Derived.Test.YtjjmechghfjbmaaAmRun
import Derived.Test.YtjjmechghfjbmaaAmDraw2
set_option linter.unusedVariables false
set_option linter.unusedSimpArgs false
set_option linter.unnecessarySimpa false
namespace Am
open Go

section
variable {MC : Nat → Code → ACode → Prop} {P : Program} {B0 : Nat}

/-- How things stand between two pieces of code. -/
structure CInv (MC : Nat → Code → ACode → Prop) (P : Program) (B0 nt lo : Nat) (fn : Bool) (st : St) (g : Ghost) (a : Act) (w : World) : Prop where
  rel : Rel MC P B0 st.H g w
  slots : SlotsOk g st.s a.tmps
  size : a.tmps.size = nt
  sc : ScOk st.c st.H
  dl : fn = true → DefOk lo a.defers g w

def Enters (code : Code) (i : Item) : Prop := i = .code code ∨ ∃ c, code = .loop c ∧ i = .inLoop c

def CodeOK (MC : Nat → Code → ACode → Prop) (P : Program) (B0 : Nat) (M : Mach) : Prop :=
  ∀ nt code ac st e st', matchCode P nt code ac = true → M.code ac st = some (e, st') → ∀ (b : Frame) a k cs g w lo i, Enters code i → (b.roundOf = none ∨ noRF ac = true) → CInv MC P B0 nt lo b.roundOf.isNone st g a w →
    ∃ a' g' w', Arr P (lone (b.atR a (i :: k)) cs w) b k cs e a' w' ∧ CInv MC P B0 nt lo b.roundOf.isNone st' g' a' w' ∧ Ext st.H g w st'.H g' w' ∧ Unborn st.H g g' ∧ st'.c = st.c

theorem Enters.code {c : Code} {i : Item} (h : Enters c i) (hc : ∀ b, c ≠ .loop b) : i = .code c := by
  rcases h with h | ⟨b, h, _⟩
  · exact h
  · exact absurd h (hc b)

theorem SlotsOk.eqv {g : Ghost} {s s' : Slots} {tmps : Array Value} (h : SlotsOk g s tmps) (he : Eqv s' s) : SlotsOk g s' tmps := fun t v hv => h t v (by rw [← he t]; exact hv)

theorem perm_nodup {l l' : List Nat} (h : l'.Perm l) (hn : l.Nodup) : l'.Nodup := h.nodup_iff.2 hn

theorem region_sound (hmix : P.follows .mixedOrders = true) {M : Mach} (hM : CallOK MC P B0 M) {nt : Nat} {id : Nat} {ops : Array Oper} {d d' : Bool} {nres : Nat} {pre live : List Nat} {l : List AOper} {st st' : St} {e : Ex} (hm : matchRegion P nt ops d d' nres l = true)
    (h : codeStep M st (.region d' nres pre l live) = some (e, st')) {b : Frame} {a : Act} {k : List Item} {cs : List Frame} {g : Ghost} {w : World} {lo : Nat} (hI : CInv MC P B0 nt lo b.roundOf.isNone st g a w) :
    ∃ a' g' w', Arr P (lone (b.atR a (.code (.region id ops d) :: k)) cs w) b k cs e a' w' ∧ CInv MC P B0 nt lo b.roundOf.isNone st' g' a' w' ∧ Ext st.H g w st'.H g' w' ∧ Unborn st.H g g' ∧ st'.c = st.c := by
  simp only [codeStep] at h
  split at h
  · next H1 hpub =>
    split at h
    · next r hr =>
      simp only [Option.some.injEq, Prod.mk.injEq] at h
      obtain ⟨rfl, rfl⟩ := h
      obtain ⟨s', H'⟩ := r
      obtain ⟨g1, hFz⟩ := publish_sound hI.rel hI.slots hpub
      simp only [matchRegion, Bool.and_eq_true] at hm
      obtain ⟨⟨⟨⟨m1, m2⟩, m3⟩, m4⟩, m5⟩ := hm
      have hnd := nodupB_iff m4
      have hrk : ∀ r ∈ l.flatMap fun o => ranksOf o.op, r < nres := fun r hr => by simpa using List.all_eq_true.1 m3 r hr
      have hsrc : ∀ o ∈ l, o.src < ops.size := by
        intro o ho
        have := List.all_eq_true.1 m2 o ho
        unfold matchOper at this
        split at this
        · cases this
        · next o' ho' =>
          rcases Nat.lt_or_ge o.src ops.size with h | h
          · exact h
          · simp [Array.getElem?_eq_none h] at ho'
      obtain ⟨hR2, hE2⟩ := hFz.rel.reserve nres
      have hE3 := hFz.ext.trans hE2
      have hC1 := publish_sc hI.sc hpub
      -- from any order
      have main : ∀ (l' : List AOper) (s'' : Slots) (w0 : World), SameOps l l' → (l'.flatMap fun o => ranksOf o.op).Perm (l.flatMap fun o => ranksOf o.op) → opers M st.c H1.length l' st.s (H1 ++ List.replicate nres .dead) [] = some (s'', H') → Eqv s' s'' →
          Rel MC P B0 (H1 ++ List.replicate nres .dead) g1 w0 → Ext st.H g w (H1 ++ List.replicate nres .dead) g1 w0 → step P (lone (b.atR a (.code (.region id ops d) :: k)) cs w) = .next (lone (b.atR a (.inRegion ops (l'.map (·.src)) :: k)) cs w0) →
          ∃ a' g' w', Arr P (lone (b.atR a (.code (.region id ops d) :: k)) cs w) b k cs .normal a' w' ∧ CInv MC P B0 nt lo b.roundOf.isNone { s := restrict s' live, H := H', c := st.c } g' a' w' ∧ Ext st.H g w H' g' w' ∧ Unborn st.H g g' ∧ st.c = st.c := by
        intro l' s'' w0 hsame hperm hops heqv hR0 hE0 hstep
        have hm' : (l'.all fun o => matchOper P ops nt o) = true := by
          rw [List.all_eq_true]
          intro o ho
          obtain ⟨o0, h0, n, rfl⟩ := hsame o ho
          exact List.all_eq_true.1 m2 o0 h0
        obtain ⟨a', g', w', q1, q2, q3, q4⟩ := opers_sound (b := b) (k := k) (cs := cs) hM (lo := lo) (fn := b.roundOf.isNone) (a := a) (g := g1) (w := w0) hm'
          ⟨hR0, hI.slots.mono hE0.le, hI.size, hC1.app _, hC1.cur, fun r hr => by
            have hr' := hrk r (hperm.mem_iff.1 hr)
            exact ⟨by simp; omega, hFz.rel.nolive _ (by omega)⟩, fun hfn => (hI.dl hfn).ext hE0⟩ (perm_nodup hperm hnd) hops
        refine ⟨a', g', w', .head hstep (q1.trans (.one stepR_region_end)), ⟨q2.rel, (q2.slots.eqv heqv).restrict live, q2.size, q2.sc, q2.dl⟩, hE0.trans q3, ?_, rfl⟩
        intro i hi hn
        refine q4 i (by rw [hFz.len]; exact hi) (by simp; have := hFz.len; omega) ?_
        rw [hFz.L]; exact hn
      simp only [beq_iff_eq] at m1
      subst m1
      cases d with
      | false =>
        simp only [Bool.false_eq_true, if_false, beq_iff_eq] at m5
        exact main l s' w (fun o ho => ⟨o, ho, o.inc, rfl⟩) (List.Perm.refl _) hr (fun _ => rfl) hR2 hE3 (by rw [m5]; exact stepR_region)
      | true =>
        simp only [if_true] at m5
        obtain ⟨l', s'', r1, r2, r3, r4, r5⟩ := draw_perm m5 hsrc hnd hr (w.tape w.drawn (.order b.fn id))
        exact main l' s'' w.drew r2 r3 r4 r5 hR2.drew (hE3.trans (Ext.drew _ _ _)) (by rw [r1]; have hs := stepR_region_draw (P := P) (b := b) (a := a) (k := k) (cs := cs) (w := w) (ops := ops) (id := id); rw [hmix] at hs; exact hs)
    · cases h
  · cases h

theorem bdAll_get {N : Nat} : ∀ {s : Slots}, bdAll N s = true → ∀ t v, sget s t = some v → v.bd N = true
  | [], _, t, v, h => by simp [sget] at h
  | x :: s, hb, t, v, h => by
    simp only [bdAll, Bool.and_eq_true] at hb
    simp only [sget] at h
    cases hq : Nat.beq x.1 t with
    | true => simp [hq] at h; subst h; exact hb.1
    | false => simp [hq] at h; exact bdAll_get hb.2 t v h

theorem Unborn.cut {H : AHeap} {g g' : Ghost} {N : Nat} (h : Unborn H g g') : Unborn H g (cutG N g') := fun i hi hn => by
  simp only [cutG]; split
  · exact h i hi hn
  · rfl

/-- A block that is nobody's is laid. -/
theorem Rel.spare {H : AHeap} {g : Ghost} {w : World} (hR : Rel MC P B0 H g w) (ob : Obj) : Rel MC P B0 H g (w.alloc ob) ∧ Ext H g w H g (w.alloc ob) := by
  refine ⟨⟨?_, ?_, hR.inj, ?_, hR.nolive, ?_⟩, ⟨Nat.le_refl _, rfl, rfl, rfl, by simp, Ghost.le_refl g, fun _ _ h => .inl h, fun _ _ _ _ _ => rfl, fun i o h k => .inr ⟨o, h, k⟩, ?_⟩⟩
  · intro β off u h
    rw [World.cell?_alloc_lt _ _ _ (hR.phi_lt h)]; exact hR.phi β off u h
  · intro i β h
    obtain ⟨h1, h2⟩ := hR.base i β h
    exact ⟨h1, by simp; omega⟩
  · intro i o hi
    refine (hR.box i o hi).mono (Ghost.le_refl g) (fun β hb => ?_)
    exact ⟨heap_alloc_old w _ β (hR.base i β hb).2, fun off => rfl⟩
  · simp; have := hR.b0; omega
  · intro β hβ _
    exact ⟨heap_alloc_old w _ β hβ, fun off => rfl⟩

theorem step_rangeBegins {b : Frame} {a : Act} {k : List Item} {cs : List Frame} {w w1 : World} {f : Operand} {ps : Array Tmp} {assign body : Code} {l : Nat} {mark : List Deferred} {fr0 : Frame}
    (he : (Instr.enterLoop b.fn a.tmps ps assign body b.roundOf).run P w = .ok (l, mark) w1) (hc : Begins P w1 (a.eval f) #[.func (.yield l) #[] #[]] fr0) :
    step P (lone (b.atR a (.code (.rangeFunc f ps assign body) :: k)) cs w) = .next (lone fr0 (b.atR { a with defers := mark ++ a.defers } (.inRangeFunc l :: k) :: cs) w1) := by
  rcases hc with ⟨i, as, h, rfl⟩ | ⟨l', i, tmps, as, bd, h, rfl⟩
  · exact step_rangeFunc he h
  · refine step_lone_go ?_
    have hev := Frame.eval_atR b { a with defers := mark ++ a.defers } (.inRangeFunc l :: k)
    simp only [Frame.atR] at hev
    have hc' : Sem.run P (resolve ({ tmps := a.tmps, defers := mark ++ a.defers } : Act).eval { callee := .value f, args := #[.const (.func (.yield l) #[] #[])], argTypes := #[] } 0 >>= fun d => invoke d.target d.args) w1 = .ok (.round l' i tmps as bd) w1 := by
      have e1 : ({ tmps := a.tmps, defers := mark ++ a.defers } : Act).eval f = a.eval f := by cases f <;> rfl
      have e2 : ({ tmps := a.tmps, defers := mark ++ a.defers } : Act).eval (.const (.func (.yield l) #[] #[])) = .func (.yield l) #[] #[] := rfl
      simpa [resolve, semCall, e1, e2] using h
    simp [stepG, stepG.exec, Frame.atR, Sem.runT_eq, he, GStep.bare_after, stepG.apply, hev, hc']

theorem loop_cell {w : World} {β : Nat} {r : Loop} (h : w.heap[β]? = some (.loop r)) (off : Nat) : w.cell? ⟨β, off, none⟩ = none := by
  simp [World.cell?, h]

/-- What the records' code is matched by. -/
def MCof (P : Program) : Nat → Code → ACode → Prop := fun nt c ac => matchCode P nt c ac = true ∧ noRF ac = true

theorem code_step (hmix : P.follows .mixedOrders = true) {M : Mach} (hC : CodeOK (MCof P) P B0 M) (hM : CallOK (MCof P) P B0 M) : CodeOK (MCof P) P B0 ⟨M.call, fun ac st => codeStep M st ac⟩ := by
  intro nt code ac st e st' hm h b a k cs g w lo i hi hb hI
  simp only at h
  cases code with
  | skip =>
    obtain rfl := hi.code (by simp)
    cases ac <;> simp only [matchCode, Bool.false_eq_true] at hm
    simp only [codeStep, Option.some.injEq, Prod.mk.injEq] at h
    obtain ⟨rfl, rfl⟩ := h
    exact ⟨a, g, w, .one stepR_skip, hI, Ext.refl _ _ _, Unborn.refl _ _, rfl⟩
  | label l =>
    obtain rfl := hi.code (by simp)
    cases ac <;> simp only [matchCode, Bool.false_eq_true] at hm
    simp only [codeStep, Option.some.injEq, Prod.mk.injEq] at h
    obtain ⟨rfl, rfl⟩ := h
    exact ⟨a, g, w, .one stepR_label, hI, Ext.refl _ _ _, Unborn.refl _ _, rfl⟩
  | region id ops d =>
    obtain rfl := hi.code (by simp)
    cases ac <;> simp only [matchCode, Bool.false_eq_true] at hm
    exact region_sound hmix hM hm h hI
  | seq x y =>
    obtain rfl := hi.code (by simp)
    cases ac <;> simp only [matchCode, Bool.false_eq_true, Bool.and_eq_true] at hm
    rename_i ax ay
    have hb1 : b.roundOf = none ∨ noRF ax = true := hb.imp id (fun h => by simp only [noRF, Bool.and_eq_true] at h; exact h.1)
    have hb2 : b.roundOf = none ∨ noRF ay = true := hb.imp id (fun h => by simp only [noRF, Bool.and_eq_true] at h; exact h.2)
    simp only [codeStep] at h
    have s0 : step P (lone (b.atR a (.code (.seq x y) :: k)) cs w) = _ := stepR_seq
    split at h
    · next st1 h1 =>
      obtain ⟨a1, g1, w1, q1, q2, q3, q4, q5⟩ := hC _ _ _ _ _ _ hm.1 h1 b a (.code y :: k) cs g w lo _ (.inl rfl) hb1 hI
      obtain ⟨a2, g2, w2, p1, p2, p3, p4, p5⟩ := hC _ _ _ _ _ _ hm.2 h b a1 k cs g1 w1 lo _ (.inl rfl) hb2 q2
      exact ⟨a2, g2, w2, .of_steps (.head s0 q1) p1, p2, q3.trans p3, q4.trans p4 q3.len, p5.trans q5⟩
    · next hne =>
      obtain ⟨a1, g1, w1, q1, q2, q3, q4, q5⟩ := hC _ _ _ _ _ _ hm.1 h b a (.code y :: k) cs g w lo _ (.inl rfl) hb1 hI
      have hen : e ≠ .normal := by rintro rfl; exact hne _ h
      exact ⟨a1, g1, w1, .of_steps (.one s0) (.pass hen (fun _ _ => rfl) q1), q2, q3, q4, q5⟩
  | cond cnd x y =>
    obtain rfl := hi.code (by simp)
    cases ac <;> simp only [matchCode, Bool.false_eq_true, Bool.and_eq_true] at hm
    rename_i ac ax ay
    have hb1 : b.roundOf = none ∨ noRF ax = true := hb.imp id (fun h => by simp only [noRF, Bool.and_eq_true] at h; exact h.1)
    have hb2 : b.roundOf = none ∨ noRF ay = true := hb.imp id (fun h => by simp only [noRF, Bool.and_eq_true] at h; exact h.2)
    simp only [codeStep] at h
    split at h
    · next hv =>
      have := V_lit (ev_V hI.slots hm.1.1 hv)
      obtain ⟨a1, g1, w1, q1, q2, q3, q4, q5⟩ := hC _ _ _ _ _ _ hm.1.2 h b a k cs g w lo _ (.inl rfl) hb1 hI
      exact ⟨a1, g1, w1, .of_steps (.one (by have := stepR_cond (P := P) (b := b) (k := k) (cs := cs) (w := w) (x := x) (y := y) this; simpa using this)) q1, q2, q3, q4, q5⟩
    · next hv =>
      have := V_lit (ev_V hI.slots hm.1.1 hv)
      obtain ⟨a1, g1, w1, q1, q2, q3, q4, q5⟩ := hC _ _ _ _ _ _ hm.2 h b a k cs g w lo _ (.inl rfl) hb2 hI
      exact ⟨a1, g1, w1, .of_steps (.one (by have := stepR_cond (P := P) (b := b) (k := k) (cs := cs) (w := w) (x := x) (y := y) this; simpa using this)) q1, q2, q3, q4, q5⟩
    · cases h
  | block id x =>
    obtain rfl := hi.code (by simp)
    cases ac <;> simp only [matchCode, Bool.false_eq_true, Bool.and_eq_true] at hm
    rename_i id' ax
    have hid : id = id' := by simpa using hm.1
    subst hid
    have hb1 : b.roundOf = none ∨ noRF ax = true := hb.imp (fun h => h) (fun h => by simpa only [noRF] using h)
    simp only [codeStep] at h
    have s0 : step P (lone (b.atR a (.code (.block id x) :: k)) cs w) = _ := stepR_block
    split at h
    · next j st1 h1 =>
      obtain ⟨a1, g1, w1, q1, q2, q3, q4, q5⟩ := hC _ _ _ _ _ _ hm.2 h1 b a (.inBlock id :: k) cs g w lo _ (.inl rfl) hb1 hI
      obtain ⟨k', r1, r2⟩ := q1
      split at h
      · next hj =>
        simp only [Option.some.injEq, Prod.mk.injEq] at h
        obtain ⟨rfl, rfl⟩ := h
        have hj' := Nat.eq_of_beq_eq_true hj
        subst hj'
        have : exitTo j k' = some k := by rw [r1]; simp [exitTo]
        exact ⟨a1, g1, w1, .head s0 (r2.trans (.one (stepR_exit this))), q2, q3, q4, q5⟩
      · next hj =>
        simp only [Option.some.injEq, Prod.mk.injEq] at h
        obtain ⟨rfl, rfl⟩ := h
        have hj' : ¬ id = j := fun e => hj (by simp [e])
        refine ⟨a1, g1, w1, ⟨k', ?_, .head s0 r2⟩, q2, q3, q4, q5⟩
        rw [r1]
        have hb' : (id == j) = false := by simpa using hj'
        simp [exitTo, hb']
    · next hne =>
      obtain ⟨a1, g1, w1, q1, q2, q3, q4, q5⟩ := hC _ _ _ _ _ _ hm.2 h b a (.inBlock id :: k) cs g w lo _ (.inl rfl) hb1 hI
      cases e with
      | normal => exact ⟨a1, g1, w1, .head s0 (Steps.trans q1 (.one stepR_inBlock)), q2, q3, q4, q5⟩
      | exit j => exact absurd h (hne _ _)
      | ret => exact ⟨a1, g1, w1, .of_steps (.one s0) q1, q2, q3, q4, q5⟩
  | loop x =>
    cases ac <;> simp only [matchCode, Bool.false_eq_true] at hm
    rename_i tr live ax
    have hm' : matchCode P nt (.loop x) (.loop tr live ax) = true := hm
    have hb1 : b.roundOf = none ∨ noRF ax = true := hb.imp id (fun h => by simpa only [noRF] using h)
    have s0 : step P (lone (b.atR a (i :: k)) cs w) = .next (lone (b.atR a (.code x :: .inLoop x :: k)) cs w) := by
      rcases hi with rfl | ⟨c, hc, rfl⟩
      · exact stepR_loop
      · cases hc; exact stepR_inLoop
    simp only [codeStep] at h
    have hI0 : CInv (MCof P) P B0 nt lo b.roundOf.isNone (if tr then { s := restrict st.s live, H := st.H, c := ⟨st.H.length, st.c.cur :: st.c.outer⟩ } else { st with s := restrict st.s live }) g a w := by
      cases tr with
      | true => exact ⟨hI.rel, hI.slots.restrict live, hI.size, hI.sc.enter hI.rel, hI.dl⟩
      | false => exact ⟨hI.rel, hI.slots.restrict live, hI.size, hI.sc, hI.dl⟩
    have hH0 : (if tr then ({ s := restrict st.s live, H := st.H, c := ⟨st.H.length, st.c.cur :: st.c.outer⟩ } : St) else { st with s := restrict st.s live }).H = st.H := by cases tr <;> rfl
    split at h
    · next st1 h1 =>
      obtain ⟨a1, g1, w1, q1, q2, q3, q4, q5⟩ := hC _ _ _ _ _ _ hm h1 b a (.inLoop x :: k) cs g w lo _ (.inl rfl) hb1 hI0
      rw [hH0] at q3 q4
      cases tr with
      | true =>
        simp only [if_true] at h q5
        split at h
        · next hbd =>
          have hsc : ScOk ⟨st.H.length, st.c.cur :: st.c.outer⟩ st1.H := q5 ▸ q2.sc
          obtain ⟨t1, t2⟩ := Rel.take hI.rel q3 q2.rel (fun i hi o ho => hsc.bd _ (by simp) i hi o ho)
          obtain ⟨a2, g2, w2, p1, p2, p3, p4, p5⟩ := hC _ _ _ _ _ _ hm' h b a1 k cs (cutG st.H.length g1) w1 lo (.inLoop x) (.inr ⟨x, rfl, rfl⟩) hb
            ⟨t1, (q2.slots.restrict live).cut (bdAll_get hbd), q2.size, (hsc.leave hI.sc.out).take hI.sc.cur, fun hfn => (hI.dl hfn |>.ext t2 |> fun _ => by
              have := q2.dl hfn
              obtain ⟨d0, βs, d1, d2, d3⟩ := this
              exact ⟨d0, βs, d1, d2, fun β hβ => ⟨(d3 β hβ).1, (d3 β hβ).2.1, (d3 β hβ).2.2.1, fun i hc => by
                simp only [cutG] at hc
                split at hc
                · exact (d3 β hβ).2.2.2 i hc
                · simp [GB.blk] at hc⟩⟩)⟩
          refine ⟨a2, g2, w2, .of_steps (.head s0 q1) p1, p2, t2.trans p3, ?_, p5⟩
          exact (Unborn.cut q4).trans p4 (by have := q3.len; simp; omega)
        · cases h
      | false =>
        simp only [Bool.false_eq_true, if_false] at h q5
        obtain ⟨a2, g2, w2, p1, p2, p3, p4, p5⟩ := hC _ _ _ _ _ _ hm' h b a1 k cs g1 w1 lo (.inLoop x) (.inr ⟨x, rfl, rfl⟩) hb ⟨q2.rel, q2.slots.restrict live, q2.size, by simpa [q5] using q2.sc, q2.dl⟩
        exact ⟨a2, g2, w2, .of_steps (.head s0 q1) p1, p2, q3.trans p3, q4.trans p4 q3.len, p5⟩
    · next e1 st1 hne h1 =>
      simp only [Option.some.injEq, Prod.mk.injEq] at h
      obtain ⟨rfl, rfl⟩ := h
      obtain ⟨a1, g1, w1, q1, q2, q3, q4, q5⟩ := hC _ _ _ _ _ _ hm h1 b a (.inLoop x :: k) cs g w lo _ (.inl rfl) hb1 hI0
      rw [hH0] at q3 q4
      have hen : e1 ≠ .normal := by rintro rfl; first | exact hne rfl | exact hne _ rfl
      refine ⟨a1, g1, w1, .of_steps (.one s0) (.pass hen (fun _ _ => rfl) q1), ⟨q2.rel, q2.slots, q2.size, ?_, q2.dl⟩, q3, q4, rfl⟩
      cases tr with
      | true =>
        have hsc : ScOk ⟨st.H.length, st.c.cur :: st.c.outer⟩ st1.H := by simp only [if_true] at q5; exact q5 ▸ q2.sc
        exact hsc.leave hI.sc.out
      | false => simp only [Bool.false_eq_true, if_false] at q5; exact q5 ▸ q2.sc
    · cases h
  | rangeFunc f ps as bd =>
    obtain rfl := hi.code (by simp)
    cases ac <;> simp only [matchCode, Bool.false_eq_true, Bool.and_eq_true] at hm
    rename_i f' ps' as' bd'
    obtain ⟨⟨⟨⟨⟨⟨m1, m2⟩, m3⟩, m4⟩, m5⟩, m6⟩, m7⟩ := hm
    have hro : b.roundOf = none := hb.resolve_right (by simp [noRF])
    have hfn : b.roundOf.isNone = true := by simp [hro]
    simp only [codeStep] at h
    split at h
    · next i0 fa fc hv =>
      split at h
      · next rs H' hcall =>
        have hVf := ev_V hI.slots m1 hv
        -- the record is laid
        have henter := run_enterLoop_outer (P := P) (w := w) b.fn a.tmps ps as bd
        obtain ⟨r1, x1⟩ := hI.rel.spare (.deferred (some []))
        obtain ⟨r2, x2⟩ := r1.reserve 1
        have hl : st.H.length < (st.H ++ List.replicate 1 AO.dead).length := by simp
        have hsetE : (st.H ++ List.replicate 1 AO.dead).set st.H.length (.loop 0 st.s ps' as' bd' false none) = st.H ++ [.loop 0 st.s ps' as' bd' false none] := by simp
        have hps : ps = ps'.toArray := by
          have : ps.toList = ps' := by simpa using m2
          subst this; simp
        let rec0 : Loop := { state := .ready, pending := none, fn := b.fn, tmps := a.tmps, params := ps, assign := as, body := bd, defers := w.heap.size }
        have hsz1 : (w.alloc (.deferred (some []))).heap.size = w.heap.size + 1 := by simp
        have hle1 : g.le ⟨updL g.L st.H.length (.loop (w.heap.size + 1)), g.Φ⟩ := ⟨fun j => by
          by_cases e : j = st.H.length
          · subst e; rw [hI.rel.nolive _ (Nat.le_refl _)]; trivial
          · simp only [updL, if_neg e]; exact GB.le_refl _, fun _ _ _ h => h⟩
        obtain ⟨r3, x3⟩ := r2.alloc (i := st.H.length) hl (r1.nolive _ (Nat.le_refl _)) (.loop rec0) (o' := .loop 0 st.s ps' as' bd' false none) (gb' := .loop (w.heap.size + 1)) (by rw [hsz1]; rfl)
          ⟨rec0, by rw [← hsz1]; exact World.alloc_heap_new _ _, rfl, rfl, hps, hI.slots.mono hle1, ⟨by rw [show rec0.tmps.size = nt from hI.size]; exact m6, m4⟩, ⟨by rw [show rec0.tmps.size = nt from hI.size]; exact m7, m5⟩,
            fun t ht => by rw [show rec0.tmps.size = nt from hI.size]; simpa using List.all_eq_true.1 m3 t ht⟩
        rw [hsetE] at r3 x3
        have hE1 := (x1.trans x2).trans x3
        -- the call
        obtain ⟨fr0, c1, c2⟩ := hM _ _ _ _ _ _ hcall ⟨updL g.L st.H.length (.loop (w.heap.size + 1)), g.Φ⟩ _ (a.eval f) #[.func (.yield (w.heap.size + 1)) #[] #[]] r3 (hI.sc.app _) (hVf.mono hle1) rfl
          (fun j y hj => by
            rcases j with _ | j <;> simp at hj
            subst hj
            exact .fn _ _ _ _ _ _ ⟨w.heap.size + 1, by simp [updL], rfl⟩ rfl rfl (by simp) (by simp))
        have hst := step_rangeBegins (P := P) (b := b) (a := a) (k := k) (cs := cs) (w := w) (f := f) (l := w.heap.size + 1) (mark := [{ target := .collected w.heap.size, args := #[] }]) (by rw [hro]; exact henter) c1
        obtain ⟨us, w2, g2, fs, d1, d2, d3, d4, d5, d6, d7⟩ := c2 (b.atR { a with defers := [{ target := .collected w.heap.size, args := #[] }] ++ a.defers } (.inRangeFunc (w.heap.size + 1) :: k)) cs
        rw [finish_inRangeFunc] at d1
        have hL2 : g2.L st.H.length = .loop (w.heap.size + 1) := le_loop d5.le (by simp [updL])
        have hE2 := hE1.trans d5
        -- the record, when the call is over
        have fin : ∀ (s2 : Slots) (f2 : Nat) ps2 as2 bd2 (pend : Option Ex), H'[st.H.length]? = some (.loop f2 s2 ps2 as2 bd2 false pend) →
            ∃ jump w3, jump = pend.bind jumpCode ∧ step P (lone (b.atR { a with defers := [{ target := .collected w.heap.size, args := #[] }] ++ a.defers } (.endRangeFunc (w.heap.size + 1) :: k)) cs w2) = .next (lone (b.atR { a with defers := [{ target := .collected w.heap.size, args := #[] }] ++ a.defers } ((jump.map Item.code).toList ++ k)) cs w3) ∧
              CInv (MCof P) P B0 nt lo b.roundOf.isNone { st with H := hset H' st.H.length .dead } g2 { a with defers := [{ target := .collected w.heap.size, args := #[] }] ++ a.defers } w3 ∧ Ext st.H g w (hset H' st.H.length .dead) g2 w3 ∧ Unborn st.H g g2 := by
          intro s2 f2 ps2 as2 bd2 pend hH
          have hbox := d4.box _ _ hH
          simp only [AO.rd] at hbox
          rw [hL2] at hbox
          obtain ⟨r, b1, b2, b3, _⟩ := hbox
          have hbusy : r.state ≠ .busy := by rw [b2]; cases pend <;> simp
          obtain ⟨r4, x4⟩ := d4.put hH rfl (β := w.heap.size + 1) (by rw [hL2]; rfl) (loop_cell b1) (.loop { r with state := .exhausted }) (o' := .dead) trivial
          have hE3 := hE2.trans x4
          refine ⟨r.pending, _, b3, step_endRangeFunc (run_endLoop b1 hbusy), ⟨r4, hI.slots.mono hE3.le, hI.size, d6.setTriv _ .dead (fun _ => trivial), fun _ => ?_⟩, hE3, ?_⟩
          · obtain ⟨e0, βs, e1, e2, e3⟩ := hI.dl hfn
            have hdef : DefOk lo (markOf w.heap.size :: a.defers) ⟨updL g.L st.H.length (.loop (w.heap.size + 1)), g.Φ⟩ ((w.alloc (.deferred (some []))).alloc (.loop rec0)) := by
              have hold := (hI.dl hfn).ext hE1
              obtain ⟨f0, βs', f1, f2, f3⟩ := hold
              refine ⟨f0, w.heap.size :: βs', by rw [List.map_cons, f1], ?_, ?_⟩
              · refine List.nodup_cons.2 ⟨fun hmem => ?_, f2⟩
                have hb' : βs' = βs := markOf_inj (by rw [← f1, ← e1])
                subst hb'
                have := (e3 _ hmem).2.1
                omega
              · intro β hβ
                rcases List.mem_cons.1 hβ with rfl | hβ
                · refine ⟨?_, by simp; omega, ?_, ?_⟩
                  · exact e0
                  · rw [heap_alloc_old _ _ _ (by simp)]; exact World.alloc_heap_new _ _
                  · intro i hc
                    simp only [updL] at hc
                    split at hc
                    · simp [GB.blk] at hc
                    · have := (hI.rel.base i _ hc).2; omega
                · exact f3 β hβ
            exact (hdef.ext d5).ext x4
          · intro i hi hn
            refine d7 i (by simp; omega) ?_
            have : i ≠ st.H.length := by omega
            simpa [updL, this] using hn
        split at h
        · next f2 s2 ps2 as2 bd2 hH =>
          simp only [Option.some.injEq, Prod.mk.injEq] at h
          obtain ⟨rfl, rfl⟩ := h
          obtain ⟨jump, w3, j1, j2, j3, j4, j5⟩ := fin _ _ _ _ _ _ hH
          simp only [Option.bind_none] at j1
          subst j1
          exact ⟨_, g2, w3, .head hst (d1.trans (.one j2)), j3, j4, j5, rfl⟩
        · next f2 s2 ps2 as2 bd2 e2 hH =>
          simp only [Option.some.injEq, Prod.mk.injEq] at h
          obtain ⟨rfl, rfl⟩ := h
          obtain ⟨jump, w3, j1, j2, j3, j4, j5⟩ := fin _ _ _ _ _ _ hH
          have hs : Steps P (lone (b.atR a (.code (.rangeFunc f ps as bd) :: k)) cs w) _ := .head hst (d1.trans (.one j2))
          refine ⟨_, g2, w3, ?_, j3, j4, j5, rfl⟩
          cases e2 with
          | normal => subst j1; exact hs
          | exit id => subst j1; exact ⟨k, rfl, hs⟩
          | ret => subst j1; exact ⟨k, hs⟩
        · cases h
      · cases h
    · cases h
  | exit id =>
    obtain rfl := hi.code (by simp)
    cases ac <;> simp only [matchCode, Bool.false_eq_true] at hm
    simp only [codeStep, Option.some.injEq, Prod.mk.injEq] at h
    obtain ⟨rfl, rfl⟩ := h
    rename_i id'
    have : id = id' := by simpa using hm
    subst this
    exact ⟨a, g, w, ⟨k, rfl, .refl _ _⟩, hI, Ext.refl _ _ _, Unborn.refl _ _, rfl⟩
  | ret =>
    obtain rfl := hi.code (by simp)
    cases ac <;> simp only [matchCode, Bool.false_eq_true] at hm
    simp only [codeStep, Option.some.injEq, Prod.mk.injEq] at h
    obtain ⟨rfl, rfl⟩ := h
    exact ⟨a, g, w, ⟨k, .refl _ _⟩, hI, Ext.refl _ _ _, Unborn.refl _ _, rfl⟩
  | scope x =>
    obtain rfl := hi.code (by simp)
    cases ac <;> simp only [matchCode, Bool.false_eq_true] at hm
    rename_i ax
    have hb1 : b.roundOf = none ∨ noRF ax = true := hb.imp (fun h => h) (fun h => by simpa only [noRF] using h)
    simp only [codeStep] at h
    have s0 : step P (lone (b.atR a (.code (.scope x) :: k)) cs w) = .next (lone (b.atR a (.code x :: .inScope x :: k)) cs w) := step_lone_go (by simp [stepG, stepG.exec, Frame.atR])
    obtain ⟨a1, g1, w1, q1, q2, q3, q4, q5⟩ := hC _ _ _ _ _ _ hm h b a (.inScope x :: k) cs g w lo _ (.inl rfl) hb1 hI
    cases e with
    | normal =>
      have s1 : step P (lone (b.atR a1 (.inScope x :: k)) cs w1) = .next (lone (b.atR a1 k) cs w1) := step_lone_go (by simp [stepG, stepG.exec, Frame.atR])
      exact ⟨a1, g1, w1, .head s0 (Steps.trans q1 (.one s1)), q2, q3, q4, q5⟩
    | exit j => exact ⟨a1, g1, w1, .of_steps (.one s0) (.pass (by simp) (fun _ _ => rfl) q1), q2, q3, q4, q5⟩
    | ret => exact ⟨a1, g1, w1, .of_steps (.one s0) q1, q2, q3, q4, q5⟩
  | goto l => cases ac <;> simp [matchCode] at hm
  | refuse s => cases ac <;> simp [matchCode] at hm
end
end Am
