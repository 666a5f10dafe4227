/- Operations that leave memory as it is, continued: numbers, strings, parts. -/
import Derived.Test.YtjjmechghfjbmaaAmOps2
set_option linter.unusedVariables false
set_option linter.unusedSimpArgs false
set_option linter.unnecessarySimpa false
namespace Am
open Go
section
variable {MC : Nat → Code → ACode → Prop} {P : Program} {B0 : Nat} {c : Sc} {n0 : Nat} {H H' : AHeap} {g : Ghost} {w : World} {s : Slots} {a : Act} {o : Oper} {v : AV}

theorem run_binInt {op : BinOp} {k : IntKind} {x y : Int} {v : Value} (h : binInt op k x y = some v) (h1 : op ≠ .shl) (h2 : op ≠ .shr) (t : TypeId) :
    (binOp op t (.int k x) (.int k y)).run P w = .ok v w ∧ v.oneCell' = true := by
  cases op <;> simp [binInt] at h <;> first
    | (subst h; simp [binOp, Op.intArith, Op.intCmp, Op.intBits, Value.oneCell']; done)
    | (obtain ⟨hb, rfl⟩ := h; simp [binOp, Op.intDiv, hb, Value.oneCell']; done)
    | (exact absurd rfl h1) | (exact absurd rfl h2)

theorem bytes_toList (b : ByteArray) : b.toList = b.data.toList := ByteArray.toList_eq b

theorem run_binStr {op : BinOp} {x y : ByteArray} {v : Value} (h : binStr op x y = some v) (t : TypeId) :
    (binOp op t (.string x) (.string y)).run P w = .ok v w ∧ v.oneCell' = true := by
  cases op <;> simp [binStr] at h
  · obtain ⟨hl, rfl⟩ := h
    have : ¬ ((x.size : Int) + y.size > IntKind.i64.max) := by
      have e : IntKind.i64.max = 9223372036854775807 := by decide
      rw [e]; omega
    simp [binOp, Op.stringOp, Value.oneCell']
    omega
  all_goals (subst h; simp [binOp, Op.stringOp, bytes_toList, Value.oneCell'])

theorem eqGuard_int (op : BinOp) (t : TypeId) (x y : Operand) (k k' : IntKind) (m n : Int) : (eqGuard op t x y (.int k m) (.int k' n)).run P w = .ok () w := by
  cases op <;> rfl
theorem eqGuard_str (op : BinOp) (t : TypeId) (x y : Operand) (m n : ByteArray) : (eqGuard op t x y (.string m) (.string n)).run P w = .ok () w := by
  cases op <;> rfl
theorem eqGuard_bool (op : BinOp) (t : TypeId) (x y : Operand) (m n : Bool) : (eqGuard op t x y (.bool m) (.bool n)).run P w = .ok () w := by
  cases op <;> rfl

theorem V_of_lit {u : Value} (h : u.oneCell' = true) : V g (.lit u) u := .den _ _ (.lit _ h)

theorem p_bin {op : BinOp} {x y : Opd} (hm : matchOp P o.op (.bin op x y) = true) (hS : SlotsOk g s a.tmps) (h : prim c n0 s H (.bin op x y) = some (v, H')) : Still P a o w g v H H' := by
  simp only [matchOp] at hm
  split at hm
  · next op' t x' y' yt hop =>
    simp only [Bool.and_eq_true] at hm
    obtain ⟨⟨h1, h2⟩, h3⟩ := hm
    have e0 : op' = op := by simpa using h1
    subst e0
    simp only [prim] at h
    split at h
    · next p q hp hq =>
      cases hb : binV op' p q with
      | none => simp [hb] at h
      | some r =>
        simp [hb] at h
        obtain ⟨rfl, rfl⟩ := h
        refine ⟨rfl, ?_⟩
        unfold binV at hb
        split at hb
        · next k m k' n =>
          have e1 := V_int (ev_V hS h2 hp)
          have e2 := V_int (ev_V hS h3 hq)
          split at hb
          · split at hb
            · cases hb
            · next hn =>
              simp at hb; subst hb
              refine ⟨_, ?_, V_of_lit rfl⟩
              simp [execOp, hop, e1, e2, eqGuard_int, binOp, Op.shift, hn]
          · split at hb
            · cases hb
            · next hn =>
              simp at hb; subst hb
              refine ⟨_, ?_, V_of_lit rfl⟩
              simp [execOp, hop, e1, e2, eqGuard_int, binOp, Op.shift, hn]
          · next n1 n2 =>
            split at hb
            · next hk =>
              subst hk
              cases hi : binInt op' k m n with
              | none => simp [hi] at hb
              | some u =>
                simp [hi] at hb; subst hb
                obtain ⟨r1, r2⟩ := run_binInt (P := P) (w := w) hi n1 n2 t
                refine ⟨u, ?_, V_of_lit r2⟩
                simp [execOp, hop, e1, e2, eqGuard_int, r1]
            · cases hb
        · next m n =>
          have e1 := V_lit (ev_V hS h2 hp)
          have e2 := V_lit (ev_V hS h3 hq)
          cases hi : binStr op' m n with
          | none => simp [hi] at hb
          | some u =>
            simp [hi] at hb; subst hb
            obtain ⟨r1, r2⟩ := run_binStr (P := P) (w := w) hi t
            refine ⟨u, ?_, V_of_lit r2⟩
            simp [execOp, hop, e1, e2, eqGuard_str, r1]
        · cases hb
    · cases h
  · cases hm

theorem p_beq {neg : Bool} {x y : Opd} (hm : matchOp P o.op (.beq neg x y) = true) (hS : SlotsOk g s a.tmps) (h : prim c n0 s H (.beq neg x y) = some (v, H')) : Still P a o w g v H H' := by
  simp only [matchOp] at hm
  split at hm
  · next op' t x' y' yt hop =>
    simp only [Bool.and_eq_true] at hm
    obtain ⟨⟨⟨h0, h1⟩, h2⟩, h3⟩ := hm
    have e0 : op' = if neg then .neq else .eql := by simpa using h0
    split at h1
    · next hu =>
      simp only [prim] at h
      split at h
      · next m n hp hq =>
        simp at h; obtain ⟨rfl, rfl⟩ := h
        have e1 := V_lit (ev_V hS h2 hp)
        have e2 := V_lit (ev_V hS h3 hq)
        refine ⟨rfl, _, ?_, V_of_lit rfl⟩
        cases neg <;> simp at e0 <;> subst e0 <;>
          simp [execOp, hop, e1, e2, eqGuard_bool, binOp, Op.equal, Op.maxDepth, run_equalIn_bool' w 9999 t m n hu]
      · cases h
    · cases h1
  · cases hm

theorem p_un {op : UnOp} {x : Opd} (hm : matchOp P o.op (.un op x) = true) (hS : SlotsOk g s a.tmps) (h : prim c n0 s H (.un op x) = some (v, H')) : Still P a o w g v H H' := by
  simp only [matchOp] at hm
  split at hm
  · next op' t x' hop =>
    simp only [Bool.and_eq_true] at hm
    obtain ⟨h1, h2⟩ := hm
    have e0 : op' = op := by simpa using h1
    subst e0
    simp only [prim] at h
    split at h
    · next p hp =>
      cases hb : unV op' p with
      | none => simp [hb] at h
      | some r =>
        simp [hb] at h
        obtain ⟨rfl, rfl⟩ := h
        refine ⟨rfl, ?_⟩
        unfold unV at hb
        split at hb
        · simp at hb; subst hb
          have e1 := V_lit (ev_V hS h2 hp)
          exact ⟨_, by simp [execOp, hop, e1, Op.unary], V_of_lit rfl⟩
        · simp at hb; subst hb
          have e1 := V_lit (ev_V hS h2 hp)
          refine ⟨_, ?_, V_of_lit rfl⟩
          simp [execOp, hop, e1, Op.unary, Op.intArith]
        · cases hb
    · cases h
  · cases hm

theorem p_conv {k : IntKind} {x : Opd} (hm : matchOp P o.op (.conv k x) = true) (hS : SlotsOk g s a.tmps) (h : prim c n0 s H (.conv k x) = some (v, H')) : Still P a o w g v H H' := by
  simp only [matchOp] at hm
  split at hm
  · next src dst x' hop =>
    simp only [Bool.and_eq_true] at hm
    obtain ⟨⟨h1, h2⟩, h3⟩ := hm
    obtain ⟨ds, hs⟩ := Option.isSome_iff_exists.1 h1
    split at h2
    · next k' hu =>
      have ek : k = k' := by simpa using h2
      subst ek
      simp only [prim] at h
      split at h
      · next kk n hp =>
        simp at h; obtain ⟨rfl, rfl⟩ := h
        have e1 := V_lit (ev_V hS h3 hp)
        exact ⟨rfl, _, by simp [execOp, hop, e1, convert, run_underlying hs, run_underlying hu, Conv.intToInt], V_of_lit rfl⟩
      · cases h
    · cases h2
  · cases hm

theorem p_idc {x : Opd} (hm : matchOp P o.op (.idc x) = true) (hS : SlotsOk g s a.tmps) (h : prim c n0 s H (.idc x) = some (v, H')) : Still P a o w g v H H' := by
  simp only [matchOp] at hm
  split at hm
  · next src dst x' hop =>
    simp only [Bool.and_eq_true] at hm
    obtain ⟨⟨h1, h2⟩, h3⟩ := hm
    obtain ⟨ds, hs⟩ := Option.isSome_iff_exists.1 h1
    split at h2
    · next hu =>
      simp only [prim] at h
      split at h
      · next b hp =>
        simp at h; obtain ⟨rfl, rfl⟩ := h
        have e1 := V_lit (ev_V hS h3 hp)
        refine ⟨rfl, _, ?_, V_of_lit rfl⟩
        simp only [execOp, hop, e1, convert, Sem.run_bind, run_underlying hs, run_underlying hu, Result.andThen_ok]
        cases ds <;> rfl
      · cases h
    · cases h2
  · cases hm

theorem p_mkfn {f : Fn} {x y : List Opd} (hm : matchOp P o.op (.mkfn f x y) = true) (hS : SlotsOk g s a.tmps) (h : prim c n0 s H (.mkfn f x y) = some (v, H')) : Still P a o w g v H H' := by
  simp only [matchOp] at hm
  split at hm
  · next f' x' y' hop =>
    simp only [Bool.and_eq_true] at hm
    obtain ⟨⟨h1, h2⟩, h3⟩ := hm
    simp only [prim] at h
    split at h
    · next p q hp hq =>
      simp at h; obtain ⟨rfl, rfl⟩ := h
      obtain ⟨l1, r1⟩ := evs_V hS h2 hp
      obtain ⟨l2, r2⟩ := evs_V hS h3 hq
      refine ⟨rfl, _, by simp [execOp, hop, Instr.makeFunc]; rfl, ?_⟩
      refine .fn _ _ _ _ _ _ ?_ (by simp [l1]) (by simp [l2]) (fun j x hj => ?_) (fun j x hj => ?_)
      · cases f' <;> cases f <;> simp [matchFn] at h1
        subst h1; rfl
      · have := r1 j x hj
        simpa [List.getD] using this
      · have := r2 j x hj
        simpa [List.getD] using this
    · cases h
  · cases hm

theorem p_extract {x : Opd} {i : Nat} (hm : matchOp P o.op (.extract x i) = true) (hS : SlotsOk g s a.tmps) (h : prim c n0 s H (.extract x i) = some (v, H')) : Still P a o w g v H H' := by
  simp only [matchOp] at hm
  split at hm
  · next x' i' hop =>
    simp only [Bool.and_eq_true] at hm
    obtain ⟨h1, h2⟩ := hm
    have e0 : i' = i := by simpa using h1
    subst e0
    simp only [prim] at h
    split at h
    · next cs hp =>
      cases hc : cs[i']? with
      | none => simp [hc] at h
      | some u =>
        simp [hc] at h; obtain ⟨rfl, rfl⟩ := h
        have hV := ev_V hS h2 hp
        generalize hev : a.eval x' = z at hV
        cases hV with
        | den _ _ hd => cases hd
        | tup _ vs hl hv =>
          have := hv _ _ hc
          have hlt : i' < vs.size := by rw [hl]; exact (List.getElem?_eq_some_iff.1 hc).1
          refine ⟨rfl, vs[i'], ?_, by simpa [hlt] using this⟩
          simp [execOp, hop, hev, Instr.extract, hlt]
    · cases h
  · cases hm

theorem p_mm {mx : Bool} {xs : List Opd} (hm : matchOp P o.op (.mm mx xs) = true) (hS : SlotsOk g s a.tmps) (h : prim c n0 s H (.mm mx xs) = some (v, H')) : Still P a o w g v H H' := by
  have key : ∀ (l : List AV) (vs : List Value) (p : AV) (u : Value) (r : AV), mmV mx p l = some r → V g p u → l.length = vs.length → (∀ j x, l[j]? = some x → V g x (vs.getD j undef)) →
      (l ≠ [] → ∃ k n, p = .lit (.int k n)) →
      ∃ z, (vs.foldlM (if mx then Builtin.max2 else Builtin.min2) u).run P w = .ok z w ∧ V g r z := by
    intro l
    induction l with
    | nil =>
      intro vs p u r hr hp hl _ _
      cases vs with
      | nil => simp [mmV] at hr; subst hr; exact ⟨u, by simp, hp⟩
      | cons => simp at hl
    | cons y l ih =>
      intro vs p u r hr hp hl hj hq
      cases vs with
      | nil => simp at hl
      | cons y' vs =>
        unfold mmV at hr
        split at hr
        · next h0 => cases h0
        · next k m k' n l' h0 =>
          cases h0
          split at hr
          · next hk =>
            subst hk
            have e1 := V_lit hp
            have e2 := V_lit (hj 0 _ rfl)
            simp at e2
            subst e1 e2
            obtain ⟨z, hz, hV⟩ := ih vs _ (.int k (if mx then (if n > m then n else m) else (if n < m then n else m))) r hr (V_of_lit rfl) (by simpa using hl) (fun j x hx => by simpa using hj (j + 1) x (by simpa using hx)) (fun _ => ⟨_, _, rfl⟩)
            refine ⟨z, ?_, hV⟩
            cases mx <;> simp [Builtin.max2, Builtin.min2] at hz ⊢ <;> exact hz
          · cases hr
        · cases hr
  have fin : ∀ args : Array Operand, matchOpds args.toList xs = true → ∃ p l r, evs s xs = some (p :: l) ∧ mmV mx p l = some r ∧ v = r ∧ H' = H ∧ ∃ u vs z, args.toList.map a.eval = u :: vs ∧ (vs.foldlM (if mx then Builtin.max2 else Builtin.min2) u).run P w = .ok z w ∧ V g r z := by
    intro args hma
    simp only [prim] at h
    split at h
    · next p l hp =>
      cases hr : mmV mx p l with
      | none => simp [hr] at h
      | some r =>
        simp [hr] at h
        obtain ⟨l1, r1⟩ := evs_V hS hma hp
        cases ha : args.toList with
        | nil => rw [ha] at l1; simp at l1
        | cons u vs =>
          rw [ha] at l1 r1
          obtain ⟨z, hz, hV⟩ := key l (vs.map a.eval) p (a.eval u) r hr (by simpa using r1 0 p rfl) (by simpa using l1) (fun j x hj => by simpa using r1 (j + 1) x (by simpa using hj)) (fun hne => by
            cases l with
            | nil => exact absurd rfl hne
            | cons y l => 
              unfold mmV at hr
              split at hr
              · next h0 => cases h0
              · exact ⟨_, _, rfl⟩
              · cases hr)
          exact ⟨p, l, r, hp, hr, h.1.symm, h.2.symm, a.eval u, vs.map a.eval, z, by simp [ha], hz, hV⟩
    · cases h
  simp only [matchOp] at hm
  split at hm
  · next args t hop =>
    simp only [Bool.and_eq_true] at hm
    obtain ⟨p, l, r, _, _, rfl, hH, u, vs, z, e1, e2, hV⟩ := fin _ hm.2
    refine ⟨hH, z, ?_, hV⟩
    rw [hm.1] at e2
    simp only [if_true] at e2
    simp [execOp, hop, resolve, invoke, builtin, Builtin.max_, e1, e2]
  · next args t hop =>
    simp only [Bool.and_eq_true] at hm
    obtain ⟨p, l, r, _, _, rfl, hH, u, vs, z, e1, e2, hV⟩ := fin _ hm.2
    refine ⟨hH, z, ?_, hV⟩
    have : mx = false := by simpa using hm.1
    rw [this] at e2
    simp only [Bool.false_eq_true, if_false] at e2
    simp [execOp, hop, resolve, invoke, builtin, Builtin.min_, e1, e2]
  · cases hm
end
end Am
