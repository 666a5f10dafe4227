/- The evaluator once more, by recursors: for the kernel. -/
import Derived.Test.YtjjmechghfjbmaaAmFast
set_option linter.unusedVariables false
set_option linter.unusedSimpArgs false
set_option linter.unnecessarySimpa false
namespace Am
open Go
noncomputable section

/-! ### operations -/
abbrev PR := Option (AV × AHeap)
def boolOf (v : AV) : Option Bool := match v with
  | .lit (.bool b) => some b
  | _ => none
theorem boolOf_some {v : AV} {b : Bool} (h : boolOf v = some b) : v = .lit (.bool b) := by unfold boolOf at h; split at h <;> simp at h; rw [h]

def rMv (x : Opd) (s : Slots) (H : AHeap) : PR := Option.rec none (fun v => some (v, H)) (evR s x)
theorem rMv_eq (x : Opd) (c : Sc) (n0 : Nat) (s : Slots) (H : AHeap) : rMv x s H = prim c n0 s H (.mv x) := by
  simp only [rMv, evR_eq, prim]; cases ev s x <;> rfl
def rBin (op : BinOp) (x y : Opd) (s : Slots) (H : AHeap) : PR := ob (evR s x) (fun x => ob (evR s y) (fun y => Option.rec none (fun v => some (v, H)) (binR op x y)))
theorem rBin_eq (op : BinOp) (x y : Opd) (c : Sc) (n0 : Nat) (s : Slots) (H : AHeap) : rBin op x y s H = prim c n0 s H (.bin op x y) := by
  simp only [rBin, evR_eq, prim, ob_eq, binR_eq]
  cases ev s x <;> cases ev s y <;> try rfl
  rename_i a b
  simp only [Option.bind_some]
  cases binV op a b <;> rfl
def rPick (x y z : Opd) (s : Slots) (H : AHeap) : PR := ob (ob (evR s x) boolOf) (fun t => Bool.rec (rMv z s H) (rMv y s H) t)
theorem rPick_eq (x y z : Opd) (c : Sc) (n0 : Nat) (s : Slots) (H : AHeap) : rPick x y z s H = prim c n0 s H (.pick x y z) := by
  simp only [rPick, evR_eq, ob_eq]
  simp only [rMv_eq _ c n0, prim]
  cases h : ev s x with
  | none => rfl
  | some v =>
    simp only [Option.bind_some]
    cases hb : boolOf v with
    | none =>
      simp only [Option.bind_none]
      split
      · next h2 => simp only [Option.some.injEq] at h2; subst h2; simp [boolOf] at hb
      · next h2 => simp only [Option.some.injEq] at h2; subst h2; simp [boolOf] at hb
      · rfl
    | some t =>
      have := boolOf_some hb
      subst this
      cases t <;> rfl
def firstR (H : AHeap) (cs : Option (List AV)) : PR := ob cs (fun l => List.rec none (fun x _ _ => some (x, H)) l)
def rLoad0 (a : Opd) (s : Slots) (H : AHeap) : PR := ob (evR s a) (fun p => firstR H (ptrCellsR H p))
theorem rLoad0_eq (a : Opd) (c : Sc) (n0 : Nat) (s : Slots) (H : AHeap) : rLoad0 a s H = prim c n0 s H (.load none a) := by
  simp only [rLoad0, evR_eq, prim, ob_eq, firstR, ptrCellsR_eq]
  cases ev s a with
  | none => rfl
  | some p =>
    simp only [Option.bind_some]
    cases ptrCells H p with
    | none => rfl
    | some l => cases l <;> rfl
def rExtract (x : Opd) (i : Nat) (s : Slots) (H : AHeap) : PR := ob (evR s x) (fun v => match v with
  | .tup cs => Option.rec none (fun v => some (v, H)) (getR cs i)
  | _ => none)
theorem rExtract_eq (x : Opd) (i : Nat) (c : Sc) (n0 : Nat) (s : Slots) (H : AHeap) : rExtract x i s H = prim c n0 s H (.extract x i) := by
  simp only [rExtract, evR_eq, prim, ob_eq, getR_eq]
  cases ev s x with
  | none => rfl
  | some v =>
    simp only [Option.bind_some]
    cases v <;> try rfl
    rename_i cs
    simp only
    cases cs[i]? <;> rfl

def primR : AOp → Sc → Nat → Slots → AHeap → PR
  | .mv x => fun _ _ => rMv x
  | .bin op x y => fun _ _ => rBin op x y
  | .pick x y z => fun _ _ => rPick x y z
  | .load none a => fun _ _ => rLoad0 a
  | .extract x i => fun _ _ => rExtract x i
  | op => primF op
theorem primR_eq (op : AOp) (c : Sc) (n0 : Nat) (s : Slots) (H : AHeap) : primR op c n0 s H = prim c n0 s H op := by
  cases op with
  | mv x => exact rMv_eq x c n0 s H
  | bin op x y => exact rBin_eq op x y c n0 s H
  | pick x y z => exact rPick_eq x y z c n0 s H
  | load k a =>
    cases k with
    | none => exact rLoad0_eq a c n0 s H
    | some k => simp only [primR]; exact primF_eq _ c n0 s H
  | extract x i => exact rExtract_eq x i c n0 s H
  | _ => simp only [primR]; exact primF_eq _ c n0 s H

/-! ### control -/
def frvAsR (l : List AV) : AHeap → Option (List AV × AHeap) :=
  List.rec (fun H => some ([], H)) (fun v _ ih H => ob (frvA H v) (fun p => Prod.rec (fun v' H' => ob (ih H') (fun q => Prod.rec (fun l H'' => some (v' :: l, H'')) q)) p)) l
theorem frvAsR_eq : ∀ (l : List AV) (H : AHeap), frvAsR l H = frvAs H l
  | [], H => rfl
  | v :: l, H => by
    have ih := frvAsR_eq l
    show ob (frvA H v) (fun p => Prod.rec (fun v' H' => ob (frvAsR l H') (fun q => Prod.rec (fun l H'' => some (v' :: l, H'')) q)) p) = _
    simp only [ob_eq, ih, frvAs]
    cases frvA H v with
    | none => rfl
    | some p =>
      obtain ⟨v', H'⟩ := p
      simp only [Option.bind_some]
      cases frvAs H' l with
      | none => rfl
      | some q => rfl

def callOpR (f : Opd) (args : List Opd) (own : List (List (Nat × Nat))) (pure : Bool) (M : Mach) (c : Sc) (n0 : Nat) (s : Slots) (H : AHeap) : PR :=
  ob (evR s f) (fun f => ob (evsR s args) (fun as =>
    Bool.rec
      (ob (frvAsR as H) (fun p => Prod.rec (fun as H => ob (M.call c H f as) (fun q => Prod.rec (fun rs H' => Prod.rec (fun vs H => some (packed vs, H)) (inVs n0 H' rs own)) q)) p))
      (callOp M c n0 s H (.c f) (as.map .c) own true) pure))

theorem evs_c (s : Slots) : ∀ (l : List AV), evs s (l.map .c) = some l
  | [] => rfl
  | x :: l => by simp [evs, ev, evs_c s l]

theorem callOpR_eq (f : Opd) (args : List Opd) (own : List (List (Nat × Nat))) (pure : Bool) (M : Mach) (c : Sc) (n0 : Nat) (s : Slots) (H : AHeap) : callOpR f args own pure M c n0 s H = callOp M c n0 s H f args own pure := by
  simp only [callOpR, evR_eq, evsR_eq, ob_eq, frvAsR_eq]
  unfold callOp
  cases ev s f with
  | none => cases evs s args <;> rfl
  | some fv =>
    cases evs s args with
    | none => rfl
    | some as =>
      simp only [Option.bind_some, ev, evs_c]
      cases pure with
      | true => rfl
      | false =>
        simp only [Bool.false_eq_true, if_false]
        cases frvAs H as with
        | none => rfl
        | some p =>
          obtain ⟨as', H1⟩ := p
          simp only [Option.bind_some]
          cases M.call c H1 fv as' with
          | none => rfl
          | some q => rfl

def coreR : AOp → Mach → Sc → Nat → Slots → AHeap → PR
  | .call f args own pure => callOpR f args own pure
  | op => fun _ => primR op
theorem coreR_eq (M : Mach) (op : AOp) (c : Sc) (n0 : Nat) (s : Slots) (H : AHeap) : coreR op M c n0 s H = core M c n0 s H op := by
  cases op with
  | call => exact callOpR_eq _ _ _ _ M c n0 s H
  | _ => simp only [coreR, core]; exact primR_eq _ c n0 s H

def wantedR (s : Slots) (g : Option (Nat × Bool)) : Option Bool :=
  Option.rec (some true) (fun p => Prod.rec (fun t want => ob (sgetR s t) (fun v => Option.rec (match v with | .tup [] => some false | _ => none) (fun b => some (b == want)) (boolOf v))) p) g
theorem wantedR_eq (s : Slots) (g : Option (Nat × Bool)) : wantedR s g = wanted s g := by
  cases g with
  | none => rfl
  | some p =>
    obtain ⟨t, want⟩ := p
    simp only [wantedR, sgetR_eq, ob_eq, wanted]
    cases sget s t with
    | none => rfl
    | some v =>
      simp only [Option.bind_some]
      cases hb : boolOf v with
      | some b => rw [boolOf_some hb]
      | none =>
        simp only
        cases v with
        | lit u => cases u <;> first | rfl | simp [boolOf] at hb
        | tup cs => cases cs <;> rfl
        | _ => rfl

def plainR (hid : List Nat) (hida : List (Nat × List Nat)) (inc : Nat) : Bool := List.rec (List.rec (Nat.beq inc 0) (fun _ _ _ => false) hida) (fun _ _ _ => false) hid
theorem plainR_eq {hid : List Nat} {hida : List (Nat × List Nat)} {inc : Nat} (h : plainR hid hida inc = true) : hid = [] ∧ hida = [] ∧ inc = 0 := by
  cases hid with
  | cons => cases h
  | nil =>
    cases hida with
    | cons => cases h
    | nil => exact ⟨rfl, rfl, Nat.eq_of_beq_eq_true h⟩

def opersR (M : Mach) (c : Sc) (n0 : Nat) (l : List AOper) : Slots → AHeap → List (Option (List Nat)) → Option (Slots × AHeap) :=
  List.rec (fun s H _ => some (s, H))
    (fun o _ ih s H hc => AOper.rec (fun dst op g hid hida inc src =>
      Bool.rec
        (Option.rec none (fun r => Prod.rec (fun s r => Prod.rec (fun H hc => ih s H hc) r) r) (oper M c n0 s H hc ⟨dst, op, g, hid, hida, inc, src⟩))
        (ob (wantedR s g) (fun t => Bool.rec
          (ih (Option.rec s (fun t => (t, AV.tup []) :: s) dst) H (Bool.rec hc (none :: hc) (writes op)))
          (ob (coreR op M c n0 s H) (fun r => Prod.rec (fun v H => ih (Option.rec s (fun t => (t, v) :: s) dst) H (Bool.rec hc (some [] :: hc) (writes op))) r)) t))
        (plainR hid hida inc)) o) l

theorem opersR_eq (M : Mach) (c : Sc) (n0 : Nat) : ∀ (l : List AOper) (s : Slots) (H : AHeap) (hc : List (Option (List Nat))), opersR M c n0 l s H hc = opers M c n0 l s H hc
  | [], _, _, _ => rfl
  | o :: l, s, H, hc => by
    have ih := opersR_eq M c n0 l
    obtain ⟨dst, op, g, hid, hida, inc, src⟩ := o
    show (Bool.rec
        (Option.rec none (fun r => Prod.rec (fun s r => Prod.rec (fun H hc => opersR M c n0 l s H hc) r) r) (oper M c n0 s H hc ⟨dst, op, g, hid, hida, inc, src⟩))
        (ob (wantedR s g) (fun t => Bool.rec
          (opersR M c n0 l (Option.rec s (fun t => (t, AV.tup []) :: s) dst) H (Bool.rec hc (none :: hc) (writes op)))
          (ob (coreR op M c n0 s H) (fun r => Prod.rec (fun v H => opersR M c n0 l (Option.rec s (fun t => (t, v) :: s) dst) H (Bool.rec hc (some [] :: hc) (writes op))) r)) t))
        (plainR hid hida inc) : Option (Slots × AHeap)) = _
    have put : ∀ v, (Option.rec s (fun t => (t, v) :: s) dst : Slots) = sput s dst v := fun v => by cases dst <;> rfl
    simp only [ih, put, opers]
    cases hp : plainR hid hida inc with
    | false =>
      simp only
      cases oper M c n0 s H hc ⟨dst, op, g, hid, hida, inc, src⟩ with
      | none => rfl
      | some r => rfl
    | true =>
      obtain ⟨rfl, rfl, rfl⟩ := plainR_eq hp
      simp only [wantedR_eq, ob_eq, coreR_eq, oper]
      cases wanted s g with
      | none => rfl
      | some t =>
        cases t with
        | false =>
          simp only [Option.bind_some]
          cases writes op <;> rfl
        | true =>
          have h1 : hsOf n0 s H { dst, op, guard := g, src } = some [] := by simp [hsOf, ways]
          have h2 : seenBy s { dst, op, guard := g, src } hc = true := by simp [seenBy]; split <;> rfl
          simp only [Option.bind_some, h1, h2, hide]
          cases core M c n0 s H op with
          | none => rfl
          | some r => cases writes op <;> simp [unhide]

abbrev RS := Option (Ex × St)
def nrm (x : RS) (k : St → RS) : RS := Option.rec none (fun p => Prod.rec (fun e st => Ex.rec (k st) (fun id => some (.exit id, st)) (some (.ret, st)) e) p) x
def rSeq (a b : ACode) (M : Mach) (st : St) : RS := nrm (M.code a st) (M.code b)
def rCond (c : Opd) (a b : ACode) (M : Mach) (st : St) : RS := ob (ob (evR st.s c) boolOf) (fun t => Bool.rec (M.code b st) (M.code a st) t)
def rBlock (id : Nat) (a : ACode) (M : Mach) (st : St) : RS := Option.rec none (fun p => Prod.rec (fun e st => Ex.rec (some (.normal, st)) (fun j => Bool.rec (some (.exit j, st)) (some (.normal, st)) (Nat.beq j id)) (some (.ret, st)) e) p) (M.code a st)
def rRegion (nres : Nat) (pre : List Nat) (ops : List AOper) (live : List Nat) (M : Mach) (st : St) : RS :=
  ob (List.rec (some st.H) (fun _ _ _ => publish st.s st.H pre) pre) (fun H =>
    ob (opersR M st.c (lenR H) ops st.s (Bool.rec (H ++ List.replicate nres .dead) H (Nat.beq nres 0)) []) (fun r => Prod.rec (fun s H => some (.normal, ⟨restrictR s live, H, st.c⟩)) r))
def rLoop (live : List Nat) (body : ACode) (M : Mach) (st : St) : RS :=
  Option.rec none (fun p => Prod.rec (fun e st' => Ex.rec (M.code (.loop false live body) ⟨restrictR st'.s live, st'.H, st.c⟩) (fun id => some (.exit id, ⟨st'.s, st'.H, st.c⟩)) (some (.ret, ⟨st'.s, st'.H, st.c⟩)) e) p) (M.code body ⟨restrictR st.s live, st.H, st.c⟩)
def rLoopT (live : List Nat) (body : ACode) (M : Mach) (st : St) : RS :=
  Option.rec none (fun p => Prod.rec (fun e st' => Ex.rec
      (Bool.rec none (M.code (.loop true live body) ⟨restrictR st'.s live, st'.H.take (lenR st.H), st.c⟩) (bdAll (lenR st.H) (restrictR st'.s live)))
      (fun id => some (.exit id, ⟨st'.s, st'.H, st.c⟩)) (some (.ret, ⟨st'.s, st'.H, st.c⟩)) e) p)
    (M.code body ⟨restrictR st.s live, st.H, ⟨lenR st.H, st.c.cur :: st.c.outer⟩⟩)

def codeR : ACode → Mach → St → RS
  | .region _ nres pre ops live => rRegion nres pre ops live
  | .seq a b => rSeq a b
  | .cond c a b => rCond c a b
  | .block id a => rBlock id a
  | .loop true live a => rLoopT live a
  | .loop false live a => rLoop live a
  | .skip => fun _ st => some (.normal, st)
  | .rangeFunc f ps a b => kRange f ps a b
  | .scope a => fun M st => M.code a st
  | .exit id => fun _ st => some (.exit id, st)
  | .ret => fun _ st => some (.ret, st)

theorem codeR_eq (ac : ACode) (M : Mach) (st : St) : codeR ac M st = codeStep M st ac := by
  cases ac with
  | region d nres pre ops live =>
    simp only [codeR, rRegion, codeStep, ob_eq, opersR_eq, lenR_eq, restrictR_eq]
    have h1 : (List.rec (some st.H) (fun _ _ _ => publish st.s st.H pre) pre : Option AHeap) = publish st.s st.H pre := by cases pre <;> rfl
    have h2 : ∀ H : AHeap, (Bool.rec (H ++ List.replicate nres .dead) H (Nat.beq nres 0) : AHeap) = H ++ List.replicate nres .dead := by
      intro H
      cases hb : Nat.beq nres 0 with
      | false => rfl
      | true => rw [Nat.eq_of_beq_eq_true hb]; simp
    rw [h1]
    simp only [h2]
    cases publish st.s st.H pre with
    | none => rfl
    | some H =>
      simp only [Option.bind_some]
      cases opers M st.c H.length ops st.s (H ++ List.replicate nres .dead) [] with
      | none => rfl
      | some r => rfl
  | seq a b =>
    simp only [codeR, rSeq, nrm, codeStep]
    cases M.code a st with
    | none => rfl
    | some p => obtain ⟨e, st'⟩ := p; cases e <;> rfl
  | cond c a b =>
    simp only [codeR, rCond, ob_eq, evR_eq, codeStep]
    cases ev st.s c with
    | none => rfl
    | some v =>
      simp only [Option.bind_some]
      cases hb : boolOf v with
      | some t => rw [boolOf_some hb]; cases t <;> rfl
      | none =>
        simp only [Option.bind_none]
        split
        · next h => simp only [Option.some.injEq] at h; subst h; simp [boolOf] at hb
        · next h => simp only [Option.some.injEq] at h; subst h; simp [boolOf] at hb
        · rfl
  | block id a =>
    simp only [codeR, rBlock, codeStep]
    cases M.code a st with
    | none => rfl
    | some p =>
      obtain ⟨e, st'⟩ := p
      cases e with
      | exit j => simp only; cases Nat.beq j id <;> rfl
      | _ => rfl
  | loop tr live a =>
    cases tr with
    | true =>
      simp only [codeR, rLoopT, codeStep, lenR_eq, restrictR_eq, if_true]
      cases M.code a { s := restrict st.s live, H := st.H, c := ⟨st.H.length, st.c.cur :: st.c.outer⟩ } with
      | none => rfl
      | some p =>
        obtain ⟨e, st'⟩ := p
        cases e with
        | normal => simp only; cases bdAll st.H.length (restrict st'.s live) <;> rfl
        | _ => rfl
    | false =>
      simp only [codeR, rLoop, codeStep, restrictR_eq, Bool.false_eq_true, if_false]
      cases M.code a { s := restrict st.s live, H := st.H, c := st.c } with
      | none => rfl
      | some p => obtain ⟨e, st'⟩ := p; cases e <;> rfl
  | rangeFunc f ps a b => simp only [codeR, kRange, codeStep]; rfl
  | _ => rfl

def argSlotsR (l : List AV) : Nat → Slots := List.rec (fun _ => []) (fun v _ ih i => (i, v) :: ih (Nat.succ i)) l
theorem argSlotsR_eq : ∀ (l : List AV) (i : Nat), argSlotsR l i = argSlots i l
  | [], i => rfl
  | v :: l, i => by
    have ih := argSlotsR_eq l (i + 1)
    simp only [argSlots, ← ih]; rfl
def resR (s : Slots) (H : AHeap) (r : ARes) : Option AV := ARes.rec (fun t => sgetR s t) (fun t k => Option.rec none (fun p => some p.1) (prim ⟨0, []⟩ 0 s H (.load k (.t t)))) r
def resultsR (s : Slots) (H : AHeap) (l : List ARes) : Option (List AV) := List.rec (some []) (fun r _ ih => ob (resR s H r) (fun v => ob ih (fun vs => some (v :: vs)))) l
theorem resultsR_eq (s : Slots) (H : AHeap) : ∀ (l : List ARes), resultsR s H l = results s H l
  | [] => rfl
  | r :: l => by
    have ih := resultsR_eq s H l
    show ob (resR s H r) (fun v => ob (resultsR s H l) (fun vs => some (v :: vs))) = _
    rw [ob_eq, ih]
    cases r with
    | tmp t =>
      simp only [results, resR, sgetR_eq]
      cases sget s t with
      | none => rfl
      | some v => simp only [Option.bind_some, ob_eq]; cases results s H l <;> rfl
    | cell t k =>
      simp only [results, resR]
      cases prim ⟨0, []⟩ 0 s H (.load k (.t t)) with
      | none => rfl
      | some v => simp only [Option.bind_some, ob_eq]; cases results s H l <;> rfl
def outVsR (B : Nat) (l : List AV) : AHeap → Option (List AV × AHeap) :=
  List.rec (fun H => some ([], H)) (fun v _ ih H => ob (outV B H v) (fun p => Prod.rec (fun v' H' => ob (ih H') (fun q => Prod.rec (fun l H'' => some (v' :: l, H'')) q)) p)) l
theorem outVsR_eq (B : Nat) : ∀ (l : List AV) (H : AHeap), outVsR B l H = outVs B H l
  | [], H => rfl
  | v :: l, H => by
    have ih := outVsR_eq B l
    show ob (outV B H v) (fun p => Prod.rec (fun v' H' => ob (outVsR B l H') (fun q => Prod.rec (fun l H'' => some (v' :: l, H'')) q)) p) = _
    simp only [ob_eq, ih, outVs]
    cases outV B H v with
    | none => rfl
    | some p =>
      obtain ⟨v', H'⟩ := p
      simp only [Option.bind_some]
      cases outVs B H' l with
      | none => rfl
      | some q => rfl
def endR (B : Nat) (rs : List ARes) (st : St) : Option (List AV × AHeap) :=
  ob (resultsR st.s st.H rs) (fun rs => ob (outVsR B rs st.H) (fun p => Prod.rec (fun rs H' => some (rs, trunc B rs H')) p))
def outR (B : Nat) (rs : List ARes) (x : RS) : Option (List AV × AHeap) :=
  Option.rec none (fun p => Prod.rec (fun e st => Ex.rec (endR B rs st) (fun _ => none) (endR B rs st) e) p) x
theorem endR_eq (B : Nat) (rs : List ARes) (st : St) : endR B rs st = match results st.s st.H rs with
    | none => none
    | some rs => match outVs B st.H rs with
      | none => none
      | some (rs, H') => some (rs, trunc B rs H') := by
  simp only [endR, resultsR_eq, outVsR_eq, ob_eq]
  cases results st.s st.H rs with
  | none => rfl
  | some rs =>
    simp only [Option.bind_some]
    cases outVs B st.H rs with
    | none => rfl
    | some p => rfl
theorem outR_eq (B : Nat) (rs : List ARes) (x : RS) : outR B rs x = outF B rs x := by
  cases x with
  | none => rfl
  | some p =>
    obtain ⟨e, st⟩ := p
    cases e with
    | exit id => rfl
    | _ => simp only [outR, outF]; exact endR_eq B rs st
def callFunR (M : Mach) (c : Sc) (H : AHeap) (as : List AV) (af : AFunc) : Option (List AV × AHeap) :=
  AFunc.rec (fun n body rs => Bool.rec none (outR (lenR H) rs (M.code body ⟨argSlotsR as 0, H, ⟨lenR H, c.cur :: c.outer⟩⟩)) (Nat.beq (lenR as) n)) af
theorem callFunR_eq (M : Mach) (c : Sc) (H : AHeap) (as : List AV) (af : AFunc) : callFunR M c H as af = callFun M c H as af := by
  obtain ⟨n, body, rs⟩ := af
  simp only [callFunR, callFun, outR_eq, lenR_eq, argSlotsR_eq]
  cases Nat.beq as.length n <;> rfl
def catR (a b : List AV) : List AV := List.rec b (fun x _ ih => x :: ih) a
theorem catR_eq : ∀ (a b : List AV), catR a b = a ++ b
  | [], b => rfl
  | x :: a, b => by
    have := catR_eq a b
    simp only [List.cons_append, ← this]; rfl
def callR (T : Tab) (M : Mach) (c : Sc) (H : AHeap) (f : AV) (args : List AV) : Option (List AV × AHeap) :=
  match f with
  | .fn (.func i) first cap => Option.rec none (fun af => callFunR M c H (catR first (catR args cap)) af) (T i)
  | f => callGen T M c H f args
theorem callR_eq (T : Tab) (M : Mach) (c : Sc) (H : AHeap) (f : AV) (args : List AV) : callR T M c H f args = callStep T M c H f args := by
  rw [← callF_eq]
  cases f with
  | fn f first cap =>
    cases f with
    | func i =>
      simp only [callR, callF, catR_eq, callFunR_eq, List.append_assoc]
      cases T i <;> rfl
    | _ => rfl
  | _ => rfl

def stepM (T : Tab) (M : Mach) : Mach := ⟨callR T M, fun ac st => codeR ac M st⟩
def machR (T : Tab) (n : Nat) : Mach := Nat.rec ⟨fun _ _ _ _ => none, fun _ _ => none⟩ (fun _ M => stepM T M) n
theorem machR_eq (T : Tab) : ∀ n, machR T n = mach T n
  | 0 => rfl
  | n + 1 => by
    have ih := machR_eq T n
    show stepM T (machR T n) = mach T (n + 1)
    rw [ih]
    simp only [stepM, mach]
    congr 1
    · funext c H f args; exact callR_eq T _ c H f args
    · funext ac st; exact codeR_eq ac _ st
end
end Am
