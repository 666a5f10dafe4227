/- Operations that leave memory as it is, continued: comparisons, parts, lengths. -/
import Derived.Test.YtjjmechghfjbmaaAmOps3
import Derived.ChangeKeysEq
set_option linter.unusedVariables false
set_option linter.unusedSimpArgs false
set_option linter.unnecessarySimpa false
namespace Am
open Go
section
variable {MC : Nat → Code → ACode → Prop} {P : Program} {B0 : Nat} {c : Sc} {n0 : Nat} {H H' : AHeap} {g : Ghost} {w : World} {s : Slots} {a : Act} {o : Oper} {v : AV}

/-- A literal of kind k, and its type. -/
theorem eqLit_run {k : Nat} {t : TypeId} (ht : kindOf P t = some k) {x y : AV} (hx : kinds [k] [x] = true) (hy : kinds [k] [y] = true) {r : Bool} (h : eqLit x y = some r)
    {u u' : Value} (hu : V g x u) (hu' : V g y u') (d : Nat) (w : World) : (Op.equalIn (d + 1) t u u').run P w = .ok r w := by
  have cases3 : (k = 0 ∧ ∃ q m, x = .lit (.int q m)) ∨ (k = 1 ∧ ∃ m, x = .lit (.bool m)) ∨ (k = 2 ∧ ∃ m, x = .lit (.string m)) := by
    unfold kinds at hx
    split at hx <;> simp_all
  have cases3' : (k = 0 ∧ ∃ q m, y = .lit (.int q m)) ∨ (k = 1 ∧ ∃ m, y = .lit (.bool m)) ∨ (k = 2 ∧ ∃ m, y = .lit (.string m)) := by
    unfold kinds at hy
    split at hy <;> simp_all
  rcases cases3 with ⟨rfl, q, m, rfl⟩ | ⟨rfl, m, rfl⟩ | ⟨rfl, m, rfl⟩ <;> rcases cases3' with ⟨h1, q', m', rfl⟩ | ⟨h1, m', rfl⟩ | ⟨h1, m', rfl⟩ <;> simp at h1
  · rw [V_lit hu, V_lit hu']
    unfold kindOf at ht
    split at ht <;> simp at ht
    next q2 hun =>
    simp only [eqLit] at h
    split at h
    · next e => subst e; cases h; exact run_equalIn_int w d t q q2 m m' hun
    · cases h
  · rw [V_lit hu, V_lit hu']
    unfold kindOf at ht
    split at ht <;> simp at ht
    next hun =>
    simp only [eqLit] at h
    cases h; exact run_equalIn_bool' w d t m m' hun
  · rw [V_lit hu, V_lit hu']
    unfold kindOf at ht
    split at ht <;> simp at ht
    next hun =>
    simp only [eqLit] at h
    cases h
    rw [← bytes_toList, ← bytes_toList]
    exact run_equalIn_string w d t m m' hun

theorem kinds_cons {k : Nat} {ks : List Nat} {x : AV} {l : List AV} (h : kinds (k :: ks) (x :: l) = true) : kinds [k] [x] = true ∧ kinds ks l = true := by
  unfold kinds at h
  split at h <;> simp_all [kinds]
theorem kinds_len : ∀ {ks : List Nat} {l : List AV}, kinds ks l = true → l.length = ks.length
  | [], [], _ => rfl
  | [], _ :: _, h => by simp [kinds] at h
  | _ :: _, [], h => by simp [kinds] at h
  | _ :: _, _ :: _, h => by simp [kinds_len (kinds_cons h).2]

theorem kindOf_agg {t : TypeId} {k : Nat} (h : kindOf P t = some k) : isAggB P t = false := by
  unfold kindOf at h
  unfold isAggB
  split at h <;> simp_all

theorem run_part1 {t : TypeId} {k : Nat} (hk : known P t = true) (ht : kindOf P t = some k) {xs : Array Value} {i : Nat} (hi : i < xs.size) (w : World) :
    (part t xs i).run P w = .ok xs[i] w := by
  simp [part, run_isAgg (known_und hk), kindOf_agg ht, hi]

theorem eqLits_fields {d : Nat} (w : World) {xs ys : Array Value} : ∀ (fs : List Field) (ks : List Nat) (i : Nat) (l m : List AV) (r : Bool), fieldKinds P i fs ks = true →
    kinds ks l = true → kinds ks m = true → eqLits l m = some r → (∀ (j : Nat) x, l[j]? = some x → i + j < xs.size ∧ V g x (xs[i + j]?.getD undef)) → (∀ (j : Nat) x, m[j]? = some x → i + j < ys.size ∧ V g x (ys[i + j]?.getD undef)) →
    (Op.eqFields (d + 1) xs ys fs).run P w = .ok r w
  | [], [], i, [], [], r, _, _, _, h, _, _ => by simp [eqLits] at h; subst h; simp [Op.eqFields]
  | [], _ :: _, _, _, _, _, h, _, _, _, _, _ => by simp [fieldKinds] at h
  | _ :: _, [], _, _, _, _, h, _, _, _, _, _ => by simp [fieldKinds] at h
  | [], [], _, _ :: _, _, _, _, h, _, _, _, _ => by simp [kinds] at h
  | [], [], _, [], _ :: _, _, _, _, h, _, _, _ => by simp [kinds] at h
  | _ :: _, _ :: _, _, [], _, _, _, h, _, _, _, _ => by simp [kinds] at h
  | _ :: _, _ :: _, _, _ :: _, [], _, _, _, h, _, _, _ => by simp [kinds] at h
  | f :: fs, k :: ks, i, x :: l, y :: m, r, hf, hl, hm, h, hx, hy => by
    simp only [fieldKinds, Bool.and_eq_true] at hf
    obtain ⟨⟨⟨⟨h1, h2⟩, h3⟩, h4⟩, h5⟩ := hf
    have e1 : f.offset = i := by simpa using h1
    have e2 : f.name ≠ "_" := by simpa using h2
    have e4 : kindOf P f.type = some k := by simpa using h4
    obtain ⟨l1, l2⟩ := kinds_cons hl
    obtain ⟨m1, m2⟩ := kinds_cons hm
    obtain ⟨x1, x2⟩ := hx 0 x rfl
    obtain ⟨y1, y2⟩ := hy 0 y rfl
    simp only [Nat.add_zero] at x1 x2 y1 y2
    have p1 := run_part1 (P := P) h3 e4 x1 w
    have p2 := run_part1 (P := P) h3 e4 y1 w
    simp only [eqLits] at h
    simp only [Op.eqFields, if_pos e2, Sem.run_bind, e1, p1, p2, Result.andThen_ok]
    have hx2 : V g x xs[i] := by simpa [x1] using x2
    have hy2 : V g y ys[i] := by simpa [y1] using y2
    split at h
    · next he =>
      rw [eqLit_run e4 l1 m1 he hx2 hy2 d w]
      simp only [Result.andThen_ok, Bool.not_true, Bool.false_eq_true, if_false]
      exact eqLits_fields w fs ks (i + 1) l m r h5 l2 m2 h (fun j z hj => by have := hx (j + 1) z hj; rwa [show i + (j + 1) = i + 1 + j by omega] at this) (fun j z hj => by have := hy (j + 1) z hj; rwa [show i + (j + 1) = i + 1 + j by omega] at this)
    · next he =>
      cases h
      rw [eqLit_run e4 l1 m1 he hx2 hy2 d w]
      simp
    · cases h

theorem eqLits_items {d e : Nat} (w : World) (hk : known P e = true) {xs ys : Array Value} : ∀ (ks : List Nat) (i : Nat) (l m : List AV) (r : Bool), (ks.all fun k => kindOf P e == some k) = true →
    kinds ks l = true → kinds ks m = true → eqLits l m = some r → (∀ (j : Nat) x, l[j]? = some x → i + j < xs.size ∧ V g x (xs[i + j]?.getD undef)) → (∀ (j : Nat) x, m[j]? = some x → i + j < ys.size ∧ V g x (ys[i + j]?.getD undef)) →
    (Op.eqItems (d + 1) e 1 xs ys (List.range' i ks.length)).run P w = .ok r w
  | [], i, [], [], r, _, _, _, h, _, _ => by simp [eqLits] at h; subst h; simp [Op.eqItems]
  | [], _, _ :: _, _, _, _, h, _, _, _, _ => by simp [kinds] at h
  | [], _, [], _ :: _, _, _, _, h, _, _, _ => by simp [kinds] at h
  | _ :: _, _, [], _, _, _, h, _, _, _, _ => by simp [kinds] at h
  | _ :: _, _, _ :: _, [], _, _, _, h, _, _, _ => by simp [kinds] at h
  | k :: ks, i, x :: l, y :: m, r, hf, hl, hm, h, hx, hy => by
    simp only [List.all_cons, Bool.and_eq_true] at hf
    obtain ⟨h4, h5⟩ := hf
    have e4 : kindOf P e = some k := by simpa using h4
    obtain ⟨l1, l2⟩ := kinds_cons hl
    obtain ⟨m1, m2⟩ := kinds_cons hm
    obtain ⟨x1, x2⟩ := hx 0 x rfl
    obtain ⟨y1, y2⟩ := hy 0 y rfl
    simp only [Nat.add_zero] at x1 x2 y1 y2
    have p1 := run_part1 (P := P) hk e4 x1 w
    have p2 := run_part1 (P := P) hk e4 y1 w
    simp only [eqLits] at h
    simp only [List.length_cons, List.range'_succ, Op.eqItems, Sem.run_bind, Nat.mul_one, p1, p2, Result.andThen_ok]
    have hx2 : V g x xs[i] := by simpa [x1] using x2
    have hy2 : V g y ys[i] := by simpa [y1] using y2
    split at h
    · next he =>
      rw [eqLit_run e4 l1 m1 he hx2 hy2 d w]
      simp only [Result.andThen_ok, Bool.not_true, Bool.false_eq_true, if_false]
      exact eqLits_items w hk ks (i + 1) l m r h5 l2 m2 h (fun j z hj => by have := hx (j + 1) z hj; rwa [show i + (j + 1) = i + 1 + j by omega] at this) (fun j z hj => by have := hy (j + 1) z hj; rwa [show i + (j + 1) = i + 1 + j by omega] at this)
    · next he =>
      cases h
      rw [eqLit_run e4 l1 m1 he hx2 hy2 d w]
      simp
    · cases h

theorem V_agg {cs : List AV} {u : Value} (h : V g (.agg cs) u) : ∃ vs : Array Value, u = .agg vs ∧ vs.size = cs.length ∧ ∀ (j : Nat) x, cs[j]? = some x → j < vs.size ∧ V g x (vs[j]?.getD undef) ∧ (vs[j]?.getD undef).oneCell' = true := by
  cases h with
  | den _ _ hd => cases hd
  | agg _ vs hl hv h1 => exact ⟨vs, rfl, hl, fun j x hj => ⟨by rw [hl]; exact (List.getElem?_eq_some_iff.1 hj).1, hv j x hj, h1 j x hj⟩⟩

theorem flatEq_run {t : TypeId} {ks : List Nat} (ht : flatEq P t ks = true) {l m : List AV} (hl : kinds ks l = true) (hm : kinds ks m = true) {r : Bool} (h : eqLits l m = some r)
    {xs ys : Array Value} (hx : ∀ (j : Nat) x, l[j]? = some x → j < xs.size ∧ V g x (xs[j]?.getD undef)) (hy : ∀ (j : Nat) x, m[j]? = some x → j < ys.size ∧ V g x (ys[j]?.getD undef)) (d : Nat) (w : World) :
    (Op.equalIn (d + 2) t (.agg xs) (.agg ys)).run P w = .ok r w := by
  unfold flatEq at ht
  simp only [Bool.and_eq_true] at ht
  obtain ⟨h0, h1⟩ := ht
  split at h1
  · next fs hu =>
    simp only [Bool.and_eq_true] at h1
    have hu' : P.underlying t = some (.struct (P.fieldsOf t)) := by simp [Program.fieldsOf, hu]
    have hf : P.fieldsOf t = fs := by simp [Program.fieldsOf, hu]
    rw [run_equalIn_struct w (d + 1) t xs ys hu' (by simpa using h1.1), hf]
    exact eqLits_fields w fs.toList ks 0 l m r h1.2 hl hm h (fun j x hj => by simpa using hx j x hj) (fun j x hj => by simpa using hy j x hj)
  · next n e hu =>
    simp only [Bool.and_eq_true] at h1
    obtain ⟨⟨⟨a1, a2⟩, a3⟩, a4⟩ := h1
    obtain ⟨i, hi⟩ := Option.isSome_iff_exists.1 (known_info a3)
    have e1 : n = ks.length := by simpa using a1
    have e2 : P.cellsOf e = 1 := by simpa using a2
    rw [run_equalIn_array w (d + 1) xs ys hu hi, e2, e1, List.range_eq_range']
    exact eqLits_items w a3 ks 0 l m r a4 hl hm h (fun j x hj => by simpa using hx j x hj) (fun j x hj => by simpa using hy j x hj)
  · cases h1

theorem p_cmp {neg : Bool} {ks : List Nat} {x y : Opd} (hm : matchOp P o.op (.cmp neg ks x y) = true) (hS : SlotsOk g s a.tmps) (h : prim c n0 s H (.cmp neg ks x y) = some (v, H')) : Still P a o w g v H H' := by
  simp only [matchOp] at hm
  split at hm
  · next op t x' y' yt hop =>
    simp only [Bool.and_eq_true] at hm
    obtain ⟨⟨⟨h0, h1⟩, h2⟩, h3⟩ := hm
    have e0 : op = if neg then .neq else .eql := by simpa using h0
    simp only [prim] at h
    split at h
    · next l m hp hq =>
      split at h
      · next hk =>
        simp only [Bool.and_eq_true] at hk
        split at h
        · next r hr =>
          simp at h; obtain ⟨rfl, rfl⟩ := h
          obtain ⟨xs, ex, _, hx⟩ := V_agg (ev_V hS h2 hp)
          obtain ⟨ys, ey, _, hy⟩ := V_agg (ev_V hS h3 hq)
          have hrun := flatEq_run h1 hk.1 hk.2 hr (fun j x hj => ⟨(hx j x hj).1, (hx j x hj).2.1⟩) (fun j x hj => ⟨(hy j x hj).1, (hy j x hj).2.1⟩) 9998 w
          have hg : P.eqGuardType P.depth t = false := by unfold flatEq at h1; simp at h1; exact h1.1
          refine ⟨rfl, _, ?_, V_of_lit rfl⟩
          cases neg <;> simp at e0 <;> subst e0 <;>
            simp [execOp, hop, ex, ey, run_eqGuard_agg w _ t x' y' xs ys hg, run_eql_struct, run_neq_struct, hrun]
        · cases h
      · cases h
    · cases h
  · cases hm

/-- A part of an aggregate. -/
theorem run_partK {t : TypeId} {k : Option Nat} (ht : sizeIs P t k = true) {cs : List AV} {vs : Array Value} {off : Nat} (hl : vs.size = cs.length)
    (hv : ∀ (j : Nat) x, cs[j]? = some x → j < vs.size ∧ V g x (vs[j]?.getD undef) ∧ (vs[j]?.getD undef).oneCell' = true) (hle : off + k.getD 1 ≤ cs.length) (w : World) :
    ∃ x, (part t vs off).run P w = .ok x w ∧ V g (takeK k (cs.drop off)) x := by
  cases k with
  | none =>
    simp [sizeIs] at ht
    simp at hle
    have hlt : off < vs.size := by omega
    refine ⟨vs[off], by simp [part, run_isAgg (known_und ht.1), ht.2, hlt], ?_⟩
    have hc : off < cs.length := by omega
    have := (hv off cs[off] (by simp [hc])).2.1
    simp [hlt] at this
    simpa [takeK, List.headD_eq_head?_getD, List.head?_drop, hc] using this
  | some k =>
    simp [sizeIs] at ht
    simp at hle
    obtain ⟨⟨hk, ha⟩, hc⟩ := ht
    refine ⟨.agg (vs.extract off (off + k)), by simp [part, run_isAgg (known_und hk), ha, run_sizeOf (known_info hk), hc], ?_⟩
    have key : ∀ (j : Nat) x, ((cs.drop off).take k)[j]? = some x → j < k ∧ cs[off + j]? = some x := by
      intro j x hj
      have hjk : j < k := by have := (List.getElem?_eq_some_iff.1 hj).1; simp at this; omega
      rw [List.getElem?_take_of_lt hjk, List.getElem?_drop] at hj
      exact ⟨hjk, hj⟩
    refine .agg _ _ (by simp; omega) (fun j x hj => ?_) (fun j x hj => ?_)
    all_goals
      obtain ⟨k1, k2⟩ := key j x hj
      obtain ⟨q1, q2, q3⟩ := hv _ _ k2
      have : (vs.extract off (off + k))[j]? = vs[off + j]? := by
        rw [Array.getElem?_extract]; simp; omega
      rw [this]
      assumption

theorem p_field {k : Option Nat} {off : Nat} {y : Opd} (hm : matchOp P o.op (.field k off y) = true) (hS : SlotsOk g s a.tmps) (h : prim c n0 s H (.field k off y) = some (v, H')) : Still P a o w g v H H' := by
  simp only [matchOp] at hm
  split at hm
  · next t x f hop =>
    simp only [Bool.and_eq_true] at hm
    obtain ⟨h1, h2⟩ := hm
    split at h1
    · next fl hfl =>
      obtain ⟨fs, hu, hf⟩ := fieldAt?_spec hfl
      simp only [Bool.and_eq_true] at h1
      have e1 : fl.offset = off := by simpa using h1.1
      subst e1
      simp only [prim] at h
      split at h
      · next cs hp =>
        obtain ⟨vs, ex, hl, hv⟩ := V_agg (ev_V hS h2 hp)
        have fin : fl.offset + k.getD 1 ≤ cs.length → v = takeK k (cs.drop fl.offset) → H' = H → Still P a o w g v H H' := by
          intro hle hv' hH
          obtain ⟨z, hz, hV⟩ := run_partK h1.2 hl hv hle w
          refine ⟨hH, z, ?_, by rw [hv']; exact hV⟩
          simp [execOp, hop, ex, Instr.field, run_underlying hu, hf, asAgg, hz]
        split at h
        · cases hc : cs[fl.offset]? with
          | none => simp [hc] at h
          | some u =>
            simp [hc] at h
            have hlt := (List.getElem?_eq_some_iff.1 hc).1
            refine fin (by simp; omega) ?_ h.2.symm
            simp [takeK, List.headD_eq_head?_getD, List.head?_drop, hc, h.1]
        · next kk =>
          split at h
          · next hle => simp at h; exact fin (by simpa using hle) (by simp [takeK, h.1]) h.2.symm
          · cases h
      · cases h
    · cases h1
  · cases hm

theorem p_idxAgg {k : Option Nat} {sz n : Nat} {x y : Opd} (hm : matchOp P o.op (.idxAgg k sz n x y) = true) (hS : SlotsOk g s a.tmps) (h : prim c n0 s H (.idxAgg k sz n x y) = some (v, H')) : Still P a o w g v H H' := by
  simp only [matchOp] at hm
  split at hm
  · next t x' i' hop =>
    simp only [Bool.and_eq_true] at hm
    obtain ⟨⟨h1, h2⟩, h3⟩ := hm
    split at h1
    · next m e hu =>
      simp only [Bool.and_eq_true] at h1
      have e1 : m = n := by simpa using h1.1.1
      have e2 : P.cellsOf e = sz := by simpa using h1.1.2
      subst e1 e2
      have hkn : known P e = true := by
        have := h1.2; cases k <;> simp [sizeIs] at this
        · exact this.1
        · exact this.1.1
      simp only [prim] at h
      split at h
      · next cs kk i hp hq =>
        obtain ⟨vs, ex, hl, hv⟩ := V_agg (ev_V hS h2 hp)
        have ei := V_int (ev_V hS h3 hq)
        split at h
        · next hb =>
          have fin : i.toNat * P.cellsOf e + k.getD 1 ≤ cs.length → v = takeK k (cs.drop (i.toNat * P.cellsOf e)) → H' = H → Still P a o w g v H H' := by
            intro hle hv' hH
            obtain ⟨z, hz, hV⟩ := run_partK h1.2 hl hv hle w
            refine ⟨hH, z, ?_, by rw [hv']; exact hV⟩
            simp [execOp, hop, ex, ei, Instr.index, run_underlying hu, asIntOf, hb, run_sizeOf (known_info hkn), hz]
          split at h
          · cases hc : cs[i.toNat * P.cellsOf e]? with
            | none => simp [hc] at h
            | some u =>
              simp [hc] at h
              have hlt := (List.getElem?_eq_some_iff.1 hc).1
              refine fin (by simp; omega) ?_ h.2.symm
              simp [takeK, List.headD_eq_head?_getD, List.head?_drop, hc, h.1]
          · next kk =>
            split at h
            · next hle => simp at h; exact fin (by simpa using hle) (by simp [takeK, h.1]) h.2.symm
            · cases h
        · cases h
      · cases h
    · cases h1
  · cases hm

theorem p_idxStr {x y : Opd} (hm : matchOp P o.op (.idxStr x y) = true) (hS : SlotsOk g s a.tmps) (h : prim c n0 s H (.idxStr x y) = some (v, H')) : Still P a o w g v H H' := by
  simp only [matchOp] at hm
  split at hm
  · next t x' i' hop =>
    simp only [Bool.and_eq_true] at hm
    obtain ⟨⟨h1, h2⟩, h3⟩ := hm
    split at h1
    · next hu =>
      simp only [prim] at h
      split at h
      · next b kk i hp hq =>
        have ex := V_lit (ev_V hS h2 hp)
        have ei := V_int (ev_V hS h3 hq)
        split at h
        · next hb =>
          cases hc : b[i.toNat]? with
          | none => simp [hc] at h
          | some u =>
            simp [hc] at h; obtain ⟨rfl, rfl⟩ := h
            refine ⟨rfl, _, ?_, V_of_lit rfl⟩
            simp [execOp, hop, ex, ei, Instr.index, run_underlying hu, asIntOf, hb, hc]
        · cases h
      · cases h
    · cases h1
  · cases hm

theorem p_sliceA {k n : Nat} {x : Opd} (hm : matchOp P o.op (.sliceA k n x) = true) (hR : Rel MC P B0 H g w) (hS : SlotsOk g s a.tmps) (h : prim c n0 s H (.sliceA k n x) = some (v, H')) : Still P a o w g v H H' := by
  simp only [matchOp] at hm
  split at hm
  · next t x' hop =>
    simp only [Bool.and_eq_true] at hm
    obtain ⟨h1, h2⟩ := hm
    split at h1
    · next m e hu =>
      simp at h1
      obtain ⟨⟨⟨rfl, hk⟩, hkn⟩, hpos⟩ := h1
      simp only [prim] at h
      split at h
      · next b off hp =>
        split at h
        · next cs hc =>
          split at h
          · simp at h; obtain ⟨rfl, rfl⟩ := h
            have hV := ev_V hS h2 hp
            generalize hev : a.eval x' = u at hV
            cases hV with
            | den _ _ hd => cases hd
            | ptr _ _ β e' hL =>
              refine ⟨rfl, .slice (some ⟨β, off, none⟩) m m, ?_, .csl _ _ _ _ β e' hL⟩
              simp [execOp, hop, hev, Instr.sliceAt, run_underlying hu, Instr.sureAddr, Instr.sliceBounds, run_sizeOf (known_info hkn)]
              simp [Addr.add]
          · cases h
        · cases h
      · cases h
    · cases h1
  · cases hm
end
end Am
