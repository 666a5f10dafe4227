/- The machine's moves. -/
import Derived.Test.YtjjmechghfjbmaaAmOut
import Derived.Test.YtjjmechghfjbmaaAmMatchCode
import Derived.AtR
import Derived.RangeFuncRecord
set_option linter.unusedVariables false
set_option linter.unusedSimpArgs false
set_option linter.unnecessarySimpa false
namespace Am
open Go

section
variable {P : Program} {b : Frame} {a : Act} {k : List Item} {cs : List Frame} {w w' : World} {ops : Array Oper}

/-- How code ends. -/
def Arr (P : Program) (m : Machine) (b : Frame) (k : List Item) (cs : List Frame) : Ex → Act → World → Prop
  | .normal, a, w => Steps P m (lone (b.atR a k) cs w)
  | .exit id, a, w => ∃ k', exitTo id k' = exitTo id k ∧ Steps P m (lone (b.atR a (.code (.exit id) :: k')) cs w)
  | .ret, a, w => ∃ k', Steps P m (lone (b.atR a (.code .ret :: k')) cs w)

theorem Arr.of_steps {m m1 : Machine} {e : Ex} (h : Steps P m m1) (h' : Arr P m1 b k cs e a w) : Arr P m b k cs e a w := by
  cases e with
  | normal => exact h.trans h'
  | exit id => obtain ⟨k', h1, h2⟩ := h'; exact ⟨k', h1, h.trans h2⟩
  | ret => obtain ⟨k', h2⟩ := h'; exact ⟨k', h.trans h2⟩

theorem Arr.pass {m : Machine} {e : Ex} {i : Item} (he : e ≠ .normal) (hi : ∀ id, e = .exit id → exitTo id (i :: k) = exitTo id k) (h : Arr P m b (i :: k) cs e a w) : Arr P m b k cs e a w := by
  cases e with
  | normal => exact absurd rfl he
  | exit id => obtain ⟨k', h1, h2⟩ := h; exact ⟨k', h1.trans (hi id rfl), h2⟩
  | ret => exact h

theorem not_defer {o : Op} {ao : AOp} (h : matchOp P o ao = true) : ∀ c, o ≠ .defer c := by
  rintro c rfl
  cases ao <;> simp [matchOp] at h

/-- An operation that ends at once. -/
theorem step_gives {i : Nat} {rest : List Nat} {o : Oper} {x : Value} (ho : ops[i]? = some o) (hw : Region.wanted o (yielded ops a.tmps) = true) (hnd : ∀ c, o.op ≠ .defer c)
    (h : Gives ((execOp a.eval o).run P w) x w') :
    step P (lone (b.atR a (.inRegion ops (i :: rest) :: k)) cs w) = .next (lone (b.atR (a.put o.dst x) (.inRegion ops rest :: k)) cs w') := by
  have hf := Frame.finish_atR b a ops i rest k x
  rw [ho] at hf
  rw [show a.put o.dst x = a.put ((some o).bind (·.dst)) x from rfl, ← hf]
  refine step_lone_go ?_
  rw [stepGR_op ho hw, Oper.semAt_eq _ _ _ hnd]
  rcases h with h | ⟨h, rfl⟩ <;> simp [stepG.apply, Sem.runT_eq, h]

/-- An operation that is not wanted. -/
theorem step_unwanted {i : Nat} {rest : List Nat} {o : Oper} (ho : ops[i]? = some o) (hw : Region.wanted o (yielded ops a.tmps) = false) :
    step P (lone (b.atR a (.inRegion ops (i :: rest) :: k)) cs w) = .next (lone (b.atR (a.put o.dst undef) (.inRegion ops rest :: k)) cs w) := by
  have := stepR_op_skip (P := P) (b := b) (a := a) (k := k) (cs := cs) (w := w) (ops := ops) (i := i) (rest := rest) (by simp [ho, hw])
  rw [this]; simp [ho]

/-! ### calls -/
def semCall (f : Value) (args : Array Value) : Sem Next := do let d ← Deferred.ofValue f args; invoke d.target d.args

/-- A call begins in this frame. -/
def Begins (P : Program) (w : World) (f : Value) (args : Array Value) (fr : Frame) : Prop :=
  (∃ i as, (semCall f args).run P w = .ok (.enter i as) w ∧ fr = Frame.enter P i as .normal) ∨
  (∃ l i tmps assign body, (semCall f args).run P w = .ok (.round l i tmps assign body) w ∧ fr = Frame.round l i tmps assign body .normal)

theorem begins_fun {i : Nat} {fn : Func} (hf : P.funcs[i]? = some fn) (hb : fn.body.isSome = true) (hn : (fn.name != "runtime.NumGoroutine") = true) (fa fc args : Array Value) :
    Begins P w (.func (.func i) fa fc) args (Frame.enter P i (fa ++ args ++ fc) .normal) := by
  refine .inl ⟨i, _, ?_, rfl⟩
  have hn' : ¬ fn.name = "runtime.NumGoroutine" := by simpa using hn
  have hb' : ¬ fn.body = none := by
    intro h; simp [h] at hb
  simp [semCall, Deferred.ofValue, Sem.run_bind, Result.andThen, invoke, callFunc, program, Sem.run, hf, hn', hb']

theorem begins_yield {β : Nat} {r : Loop} (h : w.heap[β]? = some (.loop r)) {args : Array Value} (hs : args.size = r.params.size) :
    Begins P w (.func (.yield β) #[] #[]) args (Frame.round β r.fn ((r.params.zip args).foldl (fun tmps (t, a) => tmps.setIfInBounds t a) r.tmps) r.assign r.body .normal) := by
  refine .inr ⟨β, r.fn, _, r.assign, r.body, ?_, rfl⟩
  have := run_yield (P := P) h hs
  simp [semCall, Deferred.ofValue, Sem.run_bind, Result.andThen, invoke, this]

/-- An operation that calls. -/
theorem step_begins {i : Nat} {rest : List Nat} {o : Oper} {f : Operand} {args : Array Operand} {ats : Array TypeId} (ho : ops[i]? = some o) (hw : Region.wanted o (yielded ops a.tmps) = true)
    (hop : o.op = .call { callee := .value f, args, argTypes := ats }) {fr : Frame} (h : Begins P w (a.eval f) (args.map a.eval) fr) :
    step P (lone (b.atR a (.inRegion ops (i :: rest) :: k)) cs w) = .next (lone fr (b.atR a (.inRegion ops (i :: rest) :: k) :: cs) w) := by
  have he : execOp a.eval o = semCall (a.eval f) (args.map a.eval) := by
    simp only [execOp, hop, resolve, semCall]
  refine step_lone_go ?_
  rw [stepGR_op ho hw, Oper.semAt_eq _ _ _ (by rw [hop]; simp), he]
  rcases h with ⟨j, as, h, rfl⟩ | ⟨l, j, tmps, assign, body, h, rfl⟩
  · simp [stepG.apply, Sem.runT_eq, h, Frame.atR]
  · simp [stepG.apply, Sem.runT_eq, h, Frame.atR]

/-- The statement 'for .. := range f': the record is laid, f is called. -/
theorem step_rangeFunc {f : Operand} {ps : Array Tmp} {assign body : Code} {l : Nat} {mark : List Deferred} {w1 : World} {i : Nat} {as : Array Value}
    (he : (Instr.enterLoop b.fn a.tmps ps assign body b.roundOf).run P w = .ok (l, mark) w1) (hc : (semCall (a.eval f) #[.func (.yield l) #[] #[]]).run P w1 = .ok (.enter i as) w1) :
    step P (lone (b.atR a (.code (.rangeFunc f ps assign body) :: k)) cs w) =
      .next (lone (Frame.enter P i as .normal) (b.atR { a with defers := mark ++ a.defers } (.inRangeFunc l :: k) :: cs) w1) :=
  step_lone_go (by
    have hev := Frame.eval_atR b { a with defers := mark ++ a.defers } (.inRangeFunc l :: k)
    simp only [Frame.atR] at hev
    have hc' : Sem.run P (resolve ({ tmps := a.tmps, defers := mark ++ a.defers } : Act).eval { callee := .value f, args := #[.const (.func (.yield l) #[] #[])], argTypes := #[] } 0 >>= fun d => invoke d.target d.args) w1 = .ok (.enter i as) w1 := by
      have e1 : ({ tmps := a.tmps, defers := mark ++ a.defers } : Act).eval f = a.eval f := by cases f <;> rfl
      have e2 : ({ tmps := a.tmps, defers := mark ++ a.defers } : Act).eval (.const (.func (.yield l) #[] #[])) = .func (.yield l) #[] #[] := rfl
      simpa [resolve, semCall, e1, e2] using hc
    simp [stepG, stepG.exec, Frame.atR, Sem.runT_eq, he, GStep.bare_after, stepG.apply, hev, hc'])

theorem step_endRangeFunc {l : Nat} {jump : Option Code} (h : (Instr.endLoop l).run P w = .ok jump w') :
    step P (lone (b.atR a (.endRangeFunc l :: k)) cs w) = .next (lone (b.atR a ((jump.map Item.code).toList ++ k)) cs w') :=
  step_lone_go (by simp [stepG, stepG.exec, Frame.atR, Sem.runT_eq, h, GStep.bare_after])

theorem finish_inRangeFunc (l : Nat) (v : Value) : (b.atR a (.inRangeFunc l :: k)).finish v = b.atR a (.endRangeFunc l :: k) := by
  simp [Frame.finish, Frame.atR]

/-! ### marks -/
def markOf (β : Nat) : Deferred := { target := .collected β, args := #[] }

theorem step_mark {fr : Frame} {w w' : World} {β : Nat} {ds : List Deferred} (hm : fr.mode = .returning) (hd : fr.defers = markOf β :: ds) (hk : (Instr.takeDeferred β).run P w = .ok [] w') :
    step P (lone fr cs w) = .next (lone { fr with defers := ds } cs w') := by
  refine step_lone_go ?_
  simp [stepG, unwind, hm, hd, markOf, Sem.runT_eq, hk, GStep.bare_after]

/-- The marks are taken. -/
theorem steps_marks : ∀ (βs : List Nat) (fr : Frame) (w : World), fr.mode = .returning → fr.defers = βs.map markOf → βs.Nodup → (∀ β ∈ βs, w.heap[β]? = some (.deferred (some []))) →
    ∃ w', Steps P (lone fr cs w) (lone { fr with defers := [] } cs w') ∧ w'.os = w.os ∧ w'.tape = w.tape ∧ w'.output = w.output ∧ w'.heap.size = w.heap.size ∧ (∀ β, β ∉ βs → w'.heap[β]? = w.heap[β]?) ∧ ∀ β ∈ βs, w'.heap[β]? = some (.deferred none)
  | [], fr, w, hm, hd, hn, hβ => ⟨w, by
      have : ({ fr with defers := [] } : Frame) = fr := by cases fr; simp at hd; simp [hd]
      rw [this]; exact .refl _ _, rfl, rfl, rfl, rfl, fun _ _ => rfl, by simp⟩
  | β :: βs, fr, w, hm, hd, hn, hβ => by
    obtain ⟨hn1, hn2⟩ := List.nodup_cons.1 hn
    have hβ0 := hβ β (by simp)
    have hlt : β < w.heap.size := by
      rcases Nat.lt_or_ge β w.heap.size with h | h
      · exact h
      · simp [Array.getElem?_eq_none h] at hβ0
    have h1 := step_mark (P := P) (cs := cs) (ds := βs.map markOf) hm (by simpa using hd) (run_takeDeferred (P := P) hβ0)
    obtain ⟨w', q1, q2, q3, q4, q5, q6, q7⟩ := steps_marks βs { fr with defers := βs.map markOf } (w.putObj β (.deferred none)) hm rfl hn2 (fun γ hγ => by
      rw [World.putObj_heap_other (by rintro rfl; exact hn1 hγ)]; exact hβ γ (by simp [hγ]))
    refine ⟨w', .head h1 q1, q2, q3, q4, by simpa using q5, fun γ hγ => ?_, fun γ hγ => ?_⟩
    · simp at hγ
      rw [q6 γ hγ.2, World.putObj_heap_other hγ.1]
    · rcases List.mem_cons.1 hγ with rfl | hγ
      · rw [q6 _ hn1, World.putObj_heap_same hlt]
      · exact q7 γ hγ
end
end Am
