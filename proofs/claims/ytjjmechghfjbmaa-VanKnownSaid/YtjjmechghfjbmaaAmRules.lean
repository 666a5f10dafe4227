/- Runs in pieces: what a run comes to, whatever the fuel; and the rules by which pieces are put together. -/
import Derived.Test.YtjjmechghfjbmaaAmCall
set_option linter.unusedVariables false
set_option linter.unusedSimpArgs false
set_option linter.unnecessarySimpa false
namespace Am
open Go

/-! ### more fuel does no harm -/
structure Mach.le (M M' : Mach) : Prop where
  call : ∀ c H f args r, M.call c H f args = some r → M'.call c H f args = some r
  code : ∀ ac st r, M.code ac st = some r → M'.code ac st = some r

section
variable {M M' : Mach}

theorem callOp_mono (h : M.le M') {c : Sc} {n0 : Nat} {s : Slots} {H : AHeap} {f : Opd} {args : List Opd} {own : List (List (Nat × Nat))} {pure : Bool} {r : AV × AHeap} (hr : callOp M c n0 s H f args own pure = some r) : callOp M' c n0 s H f args own pure = some r := by
  unfold callOp at hr ⊢
  split at hr
  · next fv as e1 e2 =>
    simp only [e1, e2]
    split at hr
    · next hp =>
      simp only [hp, if_true]
      split at hr
      · next hpub =>
        simp only [hpub, if_true]
        split at hr
        · cases hr
        · next as' H1 e3 =>
          try simp only [e3]
          split at hr
          · cases hr
          · next rs H2 e4 => simp only [h.call _ _ _ _ _ e4]; exact hr
      · cases hr
    · next hp =>
      simp only [hp]
      split at hr
      · cases hr
      · next as' H1 e3 =>
        try simp only [e3]
        split at hr
        · cases hr
        · next rs H2 e4 => simp only [h.call _ _ _ _ _ e4]; exact hr
  · cases hr

theorem core_mono (h : M.le M') {c : Sc} {n0 : Nat} {s : Slots} {H : AHeap} {op : AOp} {r : AV × AHeap} (hr : core M c n0 s H op = some r) : core M' c n0 s H op = some r := by
  cases op with
  | call => exact callOp_mono h hr
  | _ => exact hr

theorem oper_mono (h : M.le M') {c : Sc} {n0 : Nat} {s : Slots} {H : AHeap} {hc : List (Option (List Nat))} {o : AOper} {r : Slots × AHeap × List (Option (List Nat))} (hr : oper M c n0 s H hc o = some r) : oper M' c n0 s H hc o = some r := by
  unfold oper at hr ⊢
  split at hr
  · cases hr
  · next hw => (try simp only [hw]); exact hr
  · next hw =>
    try simp only [hw]
    split at hr
    · next hs e1 e2 =>
      try simp only [e1, e2]
      split at hr
      · next q e3 => simp only [core_mono h e3]; exact hr
      · cases hr
    · cases hr

theorem opers_mono (h : M.le M') {c : Sc} {n0 : Nat} : ∀ {l : List AOper} {s : Slots} {H : AHeap} {hc : List (Option (List Nat))} {r : Slots × AHeap}, opers M c n0 l s H hc = some r → opers M' c n0 l s H hc = some r
  | [], s, H, hc, r, hr => hr
  | o :: l, s, H, hc, r, hr => by
    simp only [opers] at hr ⊢
    split at hr
    · cases hr
    · next s1 H1 hc1 e1 => simp only [oper_mono h e1]; exact opers_mono h hr

theorem codeStep_mono (h : M.le M') {ac : ACode} {st : St} {r : Ex × St} (hr : codeStep M st ac = some r) : codeStep M' st ac = some r := by
  cases ac with
  | region d nres pre ops live =>
    simp only [codeStep] at hr ⊢
    split at hr
    · next H e1 =>
      split at hr
      · next q e2 => simp only [opers_mono h e2]; exact hr
      · cases hr
    · cases hr
  | seq a b =>
    simp only [codeStep] at hr ⊢
    cases ha : M.code a st with
    | none => simp [ha] at hr
    | some p =>
      obtain ⟨e, st1⟩ := p
      rw [h.code _ _ _ ha]
      rw [ha] at hr
      cases e with
      | normal => exact h.code _ _ _ hr
      | _ => exact hr
  | cond c a b =>
    simp only [codeStep] at hr ⊢
    split at hr
    · exact h.code _ _ _ hr
    · exact h.code _ _ _ hr
    · cases hr
  | block id a =>
    simp only [codeStep] at hr ⊢
    cases ha : M.code a st with
    | none => simp [ha] at hr
    | some p => rw [h.code _ _ _ ha]; rw [ha] at hr; exact hr
  | loop tr live a =>
    simp only [codeStep] at hr ⊢
    cases ha : M.code a (if tr then { s := restrict st.s live, H := st.H, c := ⟨st.H.length, st.c.cur :: st.c.outer⟩ } else { st with s := restrict st.s live }) with
    | none => simp [ha] at hr
    | some p =>
      obtain ⟨e, st1⟩ := p
      rw [h.code _ _ _ ha]
      rw [ha] at hr
      cases e with
      | normal =>
        cases tr with
        | true =>
          simp only [if_true] at hr ⊢
          split at hr
          · next hb => simp only [hb, if_true]; exact h.code _ _ _ hr
          · cases hr
        | false => exact h.code _ _ _ hr
      | _ => exact hr
  | rangeFunc f ps a b =>
    simp only [codeStep] at hr ⊢
    split at hr
    · next i fa fc e1 =>
      split at hr
      · next rs H' e2 => simp only [h.call _ _ _ _ _ e2]; exact hr
      · cases hr
    · cases hr
  | scope a => exact h.code _ _ _ hr
  | skip => exact hr
  | exit id => exact hr
  | ret => exact hr

theorem callStep_mono {T : Tab} (h : M.le M') {c : Sc} {H : AHeap} {f : AV} {args : List AV} {r : List AV × AHeap} (hr : callStep T M c H f args = some r) : callStep T M' c H f args = some r := by
  unfold callStep at hr ⊢
  split at hr
  · split at hr
    · cases hr
    · next af e1 =>
      simp only at hr ⊢
      split at hr
      · next hl =>
        simp only [hl, if_true]
        split at hr
        · next st e2 => simp only [h.code _ _ _ e2]; exact hr
        · next st e2 => simp only [h.code _ _ _ e2]; exact hr
        · cases hr
      · cases hr
  · split at hr
    · next e1 =>
      split at hr
      · next hl =>
        simp only [hl, if_true]
        split at hr
        · next st e2 =>
          simp only [h.code _ _ _ e2]
          split at hr
          · next e3 =>
            split at hr
            · next e st' e4 => simp only [h.code _ _ _ e4]; exact hr
            · cases hr
          · cases hr
        · cases hr
      · cases hr
    · cases hr
  · cases hr
end

theorem mach_le (T : Tab) : ∀ n, (mach T n).le (mach T (n + 1))
  | 0 => ⟨fun _ _ _ _ _ h => by simp [mach] at h, fun _ _ _ h => by simp [mach] at h⟩
  | n + 1 => ⟨fun _ _ _ _ _ h => callStep_mono (mach_le T n) h, fun _ _ _ h => codeStep_mono (mach_le T n) h⟩
theorem mach_le_add (T : Tab) (n : Nat) : ∀ k, (mach T n).le (mach T (n + k))
  | 0 => ⟨fun _ _ _ _ _ h => h, fun _ _ _ h => h⟩
  | k + 1 => ⟨fun c H f a r h => (mach_le T (n + k)).call _ _ _ _ _ ((mach_le_add T n k).call _ _ _ _ _ h), fun ac st r h => (mach_le T (n + k)).code _ _ _ ((mach_le_add T n k).code _ _ _ h)⟩
theorem mach_le_of (T : Tab) {n m : Nat} (h : n ≤ m) : (mach T n).le (mach T m) := by
  obtain ⟨k, rfl⟩ := Nat.exists_eq_add_of_le h
  exact mach_le_add T n k

theorem mach_code (T : Tab) (n : Nat) (ac : ACode) (st : St) : (mach T (n + 1)).code ac st = codeStep (mach T n) st ac := rfl
theorem mach_call (T : Tab) (n : Nat) (c : Sc) (H : AHeap) (f : AV) (args : List AV) : (mach T (n + 1)).call c H f args = callStep T (mach T n) c H f args := rfl

/-! ### what runs come to -/
def CodeR (T : Tab) (ac : ACode) (st : St) (e : Ex) (st' : St) : Prop := ∃ n, (mach T n).code ac st = some (e, st')
def CallR (T : Tab) (c : Sc) (H : AHeap) (f : AV) (args : List AV) (rs : List AV) (H' : AHeap) : Prop := ∃ n, (mach T n).call c H f args = some (rs, H')

/-- Operations, with what is hidden handed on. -/
def opers3 (M : Mach) (c : Sc) (n0 : Nat) : List AOper → Slots × AHeap × List (Option (List Nat)) → Option (Slots × AHeap × List (Option (List Nat)))
  | [], x => some x
  | o :: l, x => match oper M c n0 x.1 x.2.1 x.2.2 o with
    | none => none
    | some y => opers3 M c n0 l y
abbrev OS := Slots × AHeap × List (Option (List Nat))
def OpsR (T : Tab) (c : Sc) (n0 : Nat) (l : List AOper) (x y : OS) : Prop := ∃ n, opers3 (mach T n) c n0 l x = some y

theorem opers3_mono {M M' : Mach} (h : M.le M') {c : Sc} {n0 : Nat} : ∀ {l : List AOper} {x y : OS}, opers3 M c n0 l x = some y → opers3 M' c n0 l x = some y
  | [], x, y, hr => hr
  | o :: l, x, y, hr => by
    simp only [opers3] at hr ⊢
    split at hr
    · cases hr
    · next z e1 => simp only [oper_mono h e1]; exact opers3_mono h hr
theorem opers3_eq (M : Mach) (c : Sc) (n0 : Nat) : ∀ (l : List AOper) (x : OS), opers M c n0 l x.1 x.2.1 x.2.2 = (opers3 M c n0 l x).map fun y => (y.1, y.2.1)
  | [], x => rfl
  | o :: l, x => by
    simp only [opers, opers3]
    cases oper M c n0 x.1 x.2.1 x.2.2 o with
    | none => rfl
    | some y => exact opers3_eq M c n0 l y
theorem opers3_app (M : Mach) (c : Sc) (n0 : Nat) : ∀ (l m : List AOper) (x : OS), opers3 M c n0 (l ++ m) x = (opers3 M c n0 l x).bind (opers3 M c n0 m)
  | [], m, x => rfl
  | o :: l, m, x => by
    simp only [List.cons_append, opers3]
    cases oper M c n0 x.1 x.2.1 x.2.2 o with
    | none => rfl
    | some y => exact opers3_app M c n0 l m y

variable {T : Tab}

theorem OpsR.app {c : Sc} {n0 : Nat} {l l1 l2 : List AOper} {x y z : OS} (hl : l = l1 ++ l2) (h1 : OpsR T c n0 l1 x y) (h2 : OpsR T c n0 l2 y z) : OpsR T c n0 l x z := by
  obtain ⟨n1, e1⟩ := h1
  obtain ⟨n2, e2⟩ := h2
  refine ⟨max n1 n2, ?_⟩
  rw [hl, opers3_app, opers3_mono (mach_le_of T (Nat.le_max_left n1 n2)) e1]
  exact opers3_mono (mach_le_of T (Nat.le_max_right n1 n2)) e2

/-- One operation that calls. -/
theorem OpsR.call {c : Sc} {n0 : Nat} {o : AOper} {x y : OS} {f : Opd} {args : List Opd} {own : List (List (Nat × Nat))} {hs : List Nat} {fv : AV} {as as' rs : List AV} {H1 H2 : AHeap} (ho : o.op = .call f args own false)
    (h1 : wanted x.1 o.guard = some true) (h2 : hsOf n0 x.1 x.2.1 o = some hs) (h3 : seenBy x.1 o x.2.2 = true) (h4 : ev x.1 f = some fv) (h5 : evs x.1 args = some as) (h6 : frvAs (hide x.2.1 hs) as = some (as', H1))
    (hcall : CallR T c H1 fv as' rs H2) (h7 : (hs.isEmpty || Nat.ble x.2.1.length (inVs n0 H2 rs own).2.length) = true)
    (hy : y = (sput x.1 o.dst (packed (inVs n0 H2 rs own).1), unhide x.2.1 (inVs n0 H2 rs own).2 hs, some hs :: x.2.2)) : OpsR T c n0 [o] x y := by
  obtain ⟨n, e⟩ := hcall
  refine ⟨n, ?_⟩
  obtain ⟨dst, op, g, hid, hida, inc, src⟩ := o
  simp only at ho
  subst ho
  simp only [opers3, oper, h1, h2, h3, core, callOp, h4, h5, h6, e, h7, if_true, Bool.false_eq_true, if_false, writes, Bool.not_false, hy]

theorem OpsR.pure {c : Sc} {n0 : Nat} {o : AOper} {x y : OS} {f : Opd} {args : List Opd} {own : List (List (Nat × Nat))} {hs : List Nat} {fv : AV} {as as' rs : List AV} {H1 H2 : AHeap} (ho : o.op = .call f args own true)
    (h1 : wanted x.1 o.guard = some true) (h2 : hsOf n0 x.1 x.2.1 o = some hs) (h3 : seenBy x.1 o x.2.2 = true) (h4 : ev x.1 f = some fv) (h5 : evs x.1 args = some as) (h5' : as.all (pubbedA (hide x.2.1 hs)) = true) (h6 : frvAs (hide x.2.1 hs) as = some (as', H1))
    (hcall : CallR T c ((hide x.2.1 hs).map AO.toRo) fv as' rs H2) (hbd : bdL (hide x.2.1 hs).length rs = true) (h7 : (hs.isEmpty || Nat.ble x.2.1.length (inVs n0 (hide x.2.1 hs) rs own).2.length) = true)
    (hy : y = (sput x.1 o.dst (packed (inVs n0 (hide x.2.1 hs) rs own).1), unhide x.2.1 (inVs n0 (hide x.2.1 hs) rs own).2 hs, x.2.2)) : OpsR T c n0 [o] x y := by
  obtain ⟨n, e⟩ := hcall
  refine ⟨n, ?_⟩
  obtain ⟨dst, op, g, hid, hida, inc, src⟩ := o
  simp only at ho
  subst ho
  simp only [opers3, oper, h1, h2, h3, core, callOp, h4, h5, h5', h6, e, hbd, h7, if_true, writes, Bool.not_true, Bool.false_eq_true, if_false, hy]

theorem CodeR.region {ac : ACode} {d : Bool} {nres : Nat} {pre live : List Nat} {ops : List AOper} {st st' : St} {H : AHeap} {n0 : Nat} {x y : OS} (hac : ac = .region d nres pre ops live) (h1 : publish st.s st.H pre = some H) (hn : n0 = H.length)
    (hx : x = (st.s, H ++ List.replicate nres .dead, [])) (hr : OpsR T st.c n0 ops x y) (hst : st' = ⟨restrict y.1 live, y.2.1, st.c⟩) : CodeR T ac st .normal st' := by
  obtain ⟨n, e⟩ := hr
  refine ⟨n + 1, ?_⟩
  subst hac; subst hn; subst hx; subst hst
  have := opers3_eq (mach T n) st.c H.length ops (st.s, H ++ List.replicate nres .dead, [])
  rw [e] at this
  rw [mach_code]
  simp only [codeStep, h1]
  simp only at this
  rw [this]; rfl

theorem CodeR.seq {ac a b : ACode} {st st1 st' : St} {e : Ex} (hac : ac = .seq a b) (h1 : CodeR T a st .normal st1) (h2 : CodeR T b st1 e st') : CodeR T ac st e st' := by
  obtain ⟨n1, e1⟩ := h1
  obtain ⟨n2, e2⟩ := h2
  refine ⟨max n1 n2 + 1, ?_⟩
  subst hac
  rw [mach_code]
  simp only [codeStep, (mach_le_of T (Nat.le_max_left n1 n2)).code _ _ _ e1]
  exact (mach_le_of T (Nat.le_max_right n1 n2)).code _ _ _ e2

def Ex.out : Ex → Bool
  | .normal => false
  | _ => true
theorem CodeR.seqOut {ac a b : ACode} {st st' : St} {e : Ex} (hac : ac = .seq a b) (he : e.out = true) (h1 : CodeR T a st e st') : CodeR T ac st e st' := by
  obtain ⟨n1, e1⟩ := h1
  refine ⟨n1 + 1, ?_⟩
  subst hac
  rw [mach_code]
  simp only [codeStep, e1]
  cases e <;> first | rfl | cases he

theorem CodeR.cond {ac a b : ACode} {c : Opd} {t : Bool} {st st' : St} {e : Ex} (hac : ac = .cond c a b) (hc : ev st.s c = some (.lit (.bool t))) (h1 : CodeR T (if t then a else b) st e st') : CodeR T ac st e st' := by
  obtain ⟨n1, e1⟩ := h1
  refine ⟨n1 + 1, ?_⟩
  subst hac
  rw [mach_code]
  simp only [codeStep, hc]
  cases t <;> exact e1

theorem CodeR.condT {ac a b : ACode} {c : Opd} {st st' : St} {e : Ex} (hac : ac = .cond c a b) (hc : ev st.s c = some (.lit (.bool true))) (h1 : CodeR T a st e st') : CodeR T ac st e st' := CodeR.cond hac hc h1
theorem CodeR.condF {ac a b : ACode} {c : Opd} {st st' : St} {e : Ex} (hac : ac = .cond c a b) (hc : ev st.s c = some (.lit (.bool false))) (h1 : CodeR T b st e st') : CodeR T ac st e st' := CodeR.cond hac hc h1
theorem OpsR.nil {c : Sc} {n0 : Nat} {l : List AOper} {x : OS} (hl : l = []) : OpsR T c n0 l x x := ⟨0, by rw [hl]; rfl⟩

theorem CodeR.blockExit {ac a : ACode} {id : Nat} {st st' : St} (hac : ac = .block id a) (h1 : CodeR T a st (.exit id) st') : CodeR T ac st .normal st' := by
  obtain ⟨n1, e1⟩ := h1
  refine ⟨n1 + 1, ?_⟩
  subst hac
  rw [mach_code]
  simp [codeStep, e1]
def Ex.not (id : Nat) : Ex → Bool
  | .exit j => !Nat.beq j id
  | _ => true
theorem CodeR.block {ac a : ACode} {id : Nat} {st st' : St} {e : Ex} (hac : ac = .block id a) (he : e.not id = true) (h1 : CodeR T a st e st') : CodeR T ac st e st' := by
  obtain ⟨n1, e1⟩ := h1
  refine ⟨n1 + 1, ?_⟩
  subst hac
  rw [mach_code]
  simp only [codeStep, e1]
  cases e with
  | exit j => simp only [Ex.not, Bool.not_eq_true'] at he; simp only [he, Bool.false_eq_true, if_false]
  | _ => rfl
theorem CodeR.scope {ac a : ACode} {st st' : St} {e : Ex} (hac : ac = .scope a) (h1 : CodeR T a st e st') : CodeR T ac st e st' := by
  obtain ⟨n1, e1⟩ := h1
  refine ⟨n1 + 1, ?_⟩
  subst hac
  exact e1

def loopIn (tr : Bool) (live : List Nat) (st : St) : St := if tr then { s := restrict st.s live, H := st.H, c := ⟨st.H.length, st.c.cur :: st.c.outer⟩ } else { st with s := restrict st.s live }
def loopNext (tr : Bool) (live : List Nat) (st st1 : St) : Option St :=
  if tr then (if bdAll st.H.length (restrict st1.s live) then some { s := restrict st1.s live, H := st1.H.take st.H.length, c := st.c } else none)
  else some { s := restrict st1.s live, H := st1.H, c := st.c }

theorem CodeR.loop {ac body : ACode} {tr : Bool} {live : List Nat} {st st0 st1 st2 st' : St} {e : Ex} (hac : ac = .loop tr live body) (h0 : st0 = loopIn tr live st) (h1 : CodeR T body st0 .normal st1) (h2 : loopNext tr live st st1 = some st2)
    (h3 : CodeR T ac st2 e st') : CodeR T ac st e st' := by
  obtain ⟨n1, e1⟩ := h1
  obtain ⟨n2, e2⟩ := h3
  refine ⟨max n1 n2 + 1, ?_⟩
  subst hac; subst h0
  have e1' := (mach_le_of T (Nat.le_max_left n1 n2)).code _ _ _ e1
  have e2' := (mach_le_of T (Nat.le_max_right n1 n2)).code _ _ _ e2
  rw [mach_code]
  unfold loopIn at e1'
  unfold loopNext at h2
  simp only [codeStep, e1']
  cases tr with
  | true =>
    simp only [if_true] at h2 ⊢
    split at h2
    · next hb => simp only [Option.some.injEq] at h2; subst h2; simp only [hb, if_true]; exact e2'
    · cases h2
  | false =>
    simp only [Bool.false_eq_true, if_false, Option.some.injEq] at h2 ⊢
    subst h2; exact e2'
theorem CodeR.loopOut {ac body : ACode} {tr : Bool} {live : List Nat} {st st0 st1 st' : St} {e : Ex} (hac : ac = .loop tr live body) (h0 : st0 = loopIn tr live st) (he : e.out = true) (h1 : CodeR T body st0 e st1) (hst : st' = { st1 with c := st.c }) : CodeR T ac st e st' := by
  obtain ⟨n1, e1⟩ := h1
  refine ⟨n1 + 1, ?_⟩
  subst hac; subst h0; subst hst
  rw [mach_code]
  unfold loopIn at e1
  simp only [codeStep, e1]
  cases e <;> first | rfl | cases he

theorem CallR.fn {c : Sc} {H H1 H' : AHeap} {f : AV} {i : Nat} {fa fc args as rs0 rs1 rs : List AV} {af : AFunc} {bd : ACode} {st st' : St} {e : Ex} (hf : f = .fn (.func i) fa fc) (haf : T i = some af) (hb : af.body = bd) (has : as = fa ++ args ++ fc) (hn : Nat.beq as.length af.nargs = true)
    (hst : st = { s := argSlots 0 as, H, c := ⟨H.length, c.cur :: c.outer⟩ }) (h1 : CodeR T bd st e st') (he : (match e with | .exit _ => false | _ => true) = true) (h2 : results st'.s st'.H af.results = some rs0) (h3 : outVs H.length st'.H rs0 = some (rs1, H1))
    (hr : rs = rs1) (hH : H' = trunc H.length rs1 H1) : CallR T c H f args rs H' := by
  obtain ⟨n1, e1⟩ := h1
  refine ⟨n1 + 1, ?_⟩
  subst hf; subst has; subst hst; subst hr; subst hH
  rw [mach_call]
  subst hb
  simp only [callStep, haf, hn, if_true]
  simp only [e1]
  cases e with
  | exit id => cases he
  | _ => simp only [h2, h3]

theorem CallR.yield {c : Sc} {H H' : AHeap} {f : AV} {l : Nat} {args rs : List AV} {f0 f1 f2 : Nat} {s0 s1 s2 : Slots} {ps ps1 ps2 : List Nat} {as as1 as2 bd bd1 bd2 : ACode} {st0 st1 st1' st2 : St} {e : Ex} (hf : f = .fn (.yield l) [] []) (h0 : hget H l = some (.loop f0 s0 ps as bd false none))
    (hn : Nat.beq ps.length args.length = true) (hst : st0 = { s := (ps.zip args).foldl (fun s x => sput s (some x.1) x.2) s0, H, c := ⟨H.length, c.cur :: c.outer⟩ }) (h1 : CodeR T as st0 .normal st1) (h2 : hget st1.H l = some (.loop f1 s1 ps1 as1 bd1 false none))
    (hst1 : st1' = { st1 with H := hset st1.H l (.loop f1 s1 ps1 as1 bd1 true none) }) (h3 : CodeR T bd st1' e st2) (h4 : hget st2.H l = some (.loop f2 s2 ps2 as2 bd2 true none))
    (hr : rs = [.b (!e.out)]) (hH : H' = trunc H.length [] (hset st2.H l (.loop f2 s2 ps2 as2 bd2 false (match e with | .normal => none | e => some e)))) : CallR T c H f args rs H' := by
  obtain ⟨n1, e1⟩ := h1
  obtain ⟨n2, e2⟩ := h3
  refine ⟨max n1 n2 + 1, ?_⟩
  subst hf; subst hst; subst hst1; subst hr; subst hH
  have e1' := (mach_le_of T (Nat.le_max_left n1 n2)).code _ _ _ e1
  have e2' := (mach_le_of T (Nat.le_max_right n1 n2)).code _ _ _ e2
  rw [mach_call]
  simp only [callStep, h0, hn, if_true, e1', h2, e2', h4]
  cases e <;> rfl

theorem CodeR.rangeFunc {ac as bd : ACode} {f : Opd} {ps : List Nat} {i l : Nat} {fa fc rs : List AV} {st st' : St} {H0 H' : AHeap} {f1 : Nat} {s1 : Slots} {ps1 : List Nat} {as1 bd1 : ACode} {pend : Option Ex} {e : Ex} (hac : ac = .rangeFunc f ps as bd) (hf : ev st.s f = some (.fn (.func i) fa fc)) (hl : l = st.H.length)
    (hH0 : H0 = st.H ++ [.loop 0 st.s ps as bd false none]) (h1 : CallR T st.c H0 (.fn (.func i) fa fc) [.fn (.yield l) [] []] rs H') (h2 : hget H' l = some (.loop f1 s1 ps1 as1 bd1 false pend)) (he : e = pend.getD .normal)
    (hst : st' = { st with H := hset H' l .dead }) : CodeR T ac st e st' := by
  obtain ⟨n1, e1⟩ := h1
  refine ⟨n1 + 1, ?_⟩
  subst hac; subst hl; subst hH0; subst he; subst hst
  rw [mach_code]
  simp only [codeStep, hf, e1, h2]
  cases pend <;> rfl

end Am
