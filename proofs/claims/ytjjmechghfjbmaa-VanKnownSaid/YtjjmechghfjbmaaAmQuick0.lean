/- The evaluator's basics, by recursors: for the kernel. -/
import Derived.Test.YtjjmechghfjbmaaAmBase
import Derived.IntWalk
set_option linter.unusedVariables false
set_option linter.unusedSimpArgs false
set_option linter.unnecessarySimpa false
namespace Am
open Go
noncomputable section

/-! ### plain data -/
def ob {α β : Type} (x : Option α) (f : α → Option β) : Option β := Option.rec none f x
theorem ob_eq {α β : Type} (x : Option α) (f : α → Option β) : ob x f = x.bind f := by cases x <;> rfl

def getR {α : Type} (l : List α) : Nat → Option α := List.rec (fun _ => none) (fun o _ ih b => Nat.rec (some o) (fun b' _ => ih b') b) l
theorem getR_eq {α : Type} : ∀ (l : List α) (b : Nat), getR l b = l[b]?
  | [], b => by simp [getR]
  | x :: l, 0 => rfl
  | x :: l, b + 1 => by
    have := getR_eq l b
    simpa [getR] using this
def setR {α : Type} (l : List α) (v : α) : Nat → List α := List.rec (fun _ => []) (fun o t ih b => Nat.rec (v :: t) (fun b' _ => o :: ih b') b) l
theorem setR_eq {α : Type} (v : α) : ∀ (l : List α) (b : Nat), setR l v b = l.set b v
  | [], b => by simp [setR]
  | x :: l, 0 => rfl
  | x :: l, b + 1 => by
    have := setR_eq v l b
    simp only [List.set_cons_succ]
    rw [← this]; rfl
def lenR {α : Type} (l : List α) : Nat := List.rec 0 (fun _ _ ih => Nat.add ih 1) l
theorem lenR_eq {α : Type} : ∀ (l : List α), lenR l = l.length
  | [] => rfl
  | x :: l => by
    have := lenR_eq l
    simp only [List.length_cons, ← this]; rfl

def sgetR (s : Slots) (t : Nat) : Option AV := List.rec none (fun x _ ih => Prod.rec (fun i v => Bool.rec ih (some v) (Nat.beq i t)) x) s
theorem sgetR_eq : ∀ (s : Slots) (t : Nat), sgetR s t = sget s t
  | [], t => rfl
  | x :: s, t => by
    have := sgetR_eq s t
    obtain ⟨i, v⟩ := x
    simp only [sget, ← this]
    show (Bool.rec (sgetR s t) (some v) (Nat.beq i t) : Option AV) = _
    cases Nat.beq i t <;> rfl
def evR (s : Slots) (x : Opd) : Option AV := Opd.rec (fun i => sgetR s i) (fun v => some v) (fun i => some (.fn (.func i) [] [])) x
theorem evR_eq (s : Slots) (x : Opd) : evR s x = ev s x := by
  cases x
  · exact sgetR_eq s _
  · rfl
  · rfl
def evsR (s : Slots) (l : List Opd) : Option (List AV) := List.rec (some []) (fun x _ ih => ob (evR s x) (fun v => ob ih (fun vs => some (v :: vs)))) l
theorem evsR_eq (s : Slots) : ∀ (l : List Opd), evsR s l = evs s l
  | [] => rfl
  | x :: l => by
    have := evsR_eq s l
    show ob (evR s x) (fun v => ob (evsR s l) (fun vs => some (v :: vs))) = _
    rw [evR_eq, this, ob_eq, evs]
    congr 1; funext v; rw [ob_eq]; cases evs s l <;> rfl
def restrictR (s : Slots) (l : List Nat) : Slots := List.rec [] (fun t _ ih => Option.rec ih (fun v => (t, v) :: ih) (sgetR s t)) l
theorem restrictR_eq (s : Slots) : ∀ (l : List Nat), restrictR s l = restrict s l
  | [] => rfl
  | t :: l => by
    have := restrictR_eq s l
    show (Option.rec (restrictR s l) (fun v => (t, v) :: restrictR s l) (sgetR s t) : Slots) = _
    rw [sgetR_eq, this, restrict]
    cases sget s t <;> rfl

/-! ### numbers -/
def isI64 (k : IntKind) : Bool := IntKind.rec false false false true false false false false k
theorem isI64_eq {k : IntKind} (h : isI64 k = true) : k = .i64 := by cases k <;> simp [isI64] at h ⊢
def keqR (k k' : IntKind) : Bool := Bool.rec (decide (k = k')) true (and (isI64 k) (isI64 k'))
theorem keqR_eq (k k' : IntKind) : keqR k k' = decide (k = k') := by
  unfold keqR
  cases h : and (isI64 k) (isI64 k') with
  | false => rfl
  | true =>
    simp only [Bool.and_eq_true] at h
    rw [isI64_eq h.1, isI64_eq h.2]; rfl
def ltR (a b : Int) : Bool := Int.rec (fun m => Int.rec (fun n => Nat.blt m n) (fun _ => false) b) (fun m => Int.rec (fun _ => true) (fun n => Nat.blt n m) b) a
theorem ltR_eq (a b : Int) : ltR a b = decide (a < b) := by
  rw [Bool.eq_iff_iff, decide_eq_true_iff]
  cases a <;> cases b
  · show Nat.blt _ _ = true ↔ _; rw [Nat.blt_eq]; simp
  · show false = true ↔ _; simp; omega
  · show true = true ↔ _; simp; omega
  · show Nat.blt _ _ = true ↔ _; rw [Nat.blt_eq]; simp only [Int.negSucc_eq]; omega
def eqR (a b : Int) : Bool := Int.rec (fun m => Int.rec (fun n => Nat.beq m n) (fun _ => false) b) (fun m => Int.rec (fun _ => false) (fun n => Nat.beq m n) b) a
theorem eqR_eq (a b : Int) : eqR a b = (a == b) := by
  rw [Bool.eq_iff_iff, beq_iff_eq]
  cases a <;> cases b
  · show Nat.beq _ _ = true ↔ _; rw [Nat.beq_eq]; simp only [Int.ofNat_eq_natCast]; omega
  · show false = true ↔ _; simp
  · show false = true ↔ _; simp
  · show Nat.beq _ _ = true ↔ _; rw [Nat.beq_eq]; simp
def wrapR (k : IntKind) (n : Int) : Int :=
  Bool.rec (k.wrap n) n (and (isI64 k) (Int.rec (fun m => Nat.blt m 9223372036854775808) (fun m => Nat.blt m 9223372036854775808) n))
theorem wrapR_eq (k : IntKind) (n : Int) : wrapR k n = k.wrap n := by
  unfold wrapR
  cases h : and (isI64 k) (Int.rec (fun m => Nat.blt m 9223372036854775808) (fun m => Nat.blt m 9223372036854775808) n) with
  | false => rfl
  | true =>
    simp only [Bool.and_eq_true] at h
    obtain ⟨h1, h2⟩ := h
    rw [isI64_eq h1]
    have hb : -9223372036854775808 ≤ n ∧ n ≤ 9223372036854775807 := by
      cases n with
      | ofNat m =>
        have h3 : Nat.blt m 9223372036854775808 = true := h2
        rw [Nat.blt_eq] at h3
        simp only [Int.ofNat_eq_natCast]; omega
      | negSucc m =>
        have h3 : Nat.blt m 9223372036854775808 = true := h2
        rw [Nat.blt_eq] at h3
        simp only [Int.negSucc_eq]; omega
    exact (Go.IntWalk.i64_in n hb).symm

def litI (k : IntKind) (n : Int) : Option AV := some (.lit (.int k n))
def litB (t : Bool) : Option AV := some (.lit (.bool t))
/-- Two integers of one kind. -/
def ibinR (op : BinOp) (k : IntKind) (a b : Int) : Option AV :=
  match op with
  | .add => litI k (wrapR k (Int.add a b))
  | .sub => litI k (wrapR k (Int.sub a b))
  | .mul => litI k (wrapR k (Int.mul a b))
  | .eql => litB (eqR a b)
  | .neq => litB (not (eqR a b))
  | .lss => litB (ltR a b)
  | .leq => litB (not (ltR b a))
  | .gtr => litB (ltR b a)
  | .geq => litB (not (ltR a b))
  | op => (binInt op k a b).map .lit
def isShift : BinOp → Bool
  | .shl | .shr => true
  | _ => false
theorem ibinR_eq {op : BinOp} {k : IntKind} {a b : Int} (h : isShift op = false) : binV op (.lit (.int k a)) (.lit (.int k b)) = ibinR op k a b := by
  cases op <;> simp [isShift] at h <;> simp only [binV, if_true, ibinR, binInt, Option.map_some, litI, litB, wrapR_eq, ltR_eq, eqR_eq] <;> first
    | rfl
    | (congr 3; done)
    | (congr 3; rw [Bool.eq_iff_iff]; simp; omega)
    | (congr 3; rw [Bool.eq_iff_iff]; simp)

def intOf (v : AV) : Option (IntKind × Int) := match v with
  | .lit (.int k n) => some (k, n)
  | _ => none
def binR (op : BinOp) (x y : AV) : Option AV :=
  Option.rec (binV op x y) (fun p => Prod.rec (fun k a => Option.rec (binV op x y) (fun p => Prod.rec (fun k' b => Bool.rec (binV op x y) (ibinR op k a b) (and (keqR k k') (not (isShift op)))) p) (intOf y)) p) (intOf x)
theorem binR_eq (op : BinOp) (x y : AV) : binR op x y = binV op x y := by
  unfold binR
  cases hx : intOf x with
  | none => rfl
  | some p =>
    obtain ⟨k, a⟩ := p
    cases hy : intOf y with
    | none => rfl
    | some q =>
      obtain ⟨k', b⟩ := q
      show (Bool.rec (binV op x y) (ibinR op k a b) (and (keqR k k') (not (isShift op))) : Option AV) = _
      cases hb : and (keqR k k') (not (isShift op)) with
      | false => rfl
      | true =>
        simp only [Bool.and_eq_true, keqR_eq, decide_eq_true_eq, Bool.not_eq_true'] at hb
        obtain ⟨rfl, hs⟩ := hb
        have ex : x = .lit (.int k a) := by unfold intOf at hx; split at hx <;> simp at hx; obtain ⟨rfl, rfl⟩ := hx; rfl
        have ey : y = .lit (.int k b) := by unfold intOf at hy; split at hy <;> simp at hy; obtain ⟨rfl, rfl⟩ := hy; rfl
        subst ex; subst ey
        exact (ibinR_eq hs).symm


/-! ### memory -/
def hgetR (H : AHeap) (b : Nat) : Option AO := getR H b
theorem hgetR_eq (H : AHeap) (b : Nat) : hgetR H b = hget H b := getR_eq H b
def hsetR (H : AHeap) (b : Nat) (o : AO) : AHeap := setR H o b
theorem hsetR_eq (H : AHeap) (b : Nat) (o : AO) : hsetR H b o = hset H b o := setR_eq o H b
def cellsR : AO → Option (List AV)
  | .cells cs => some cs
  | .ro (.cells cs) => some cs
  | _ => none
def cellsWR : AO → Option (List AV)
  | .cells cs => some cs
  | _ => none
def arrR : AO → Option (Nat × Bool × List (List AV))
  | .arr k p rows => some (k, p, rows)
  | .ro (.arr k p rows) => some (k, p, rows)
  | _ => none
def arrWR : AO → Option (Nat × Bool × List (List AV))
  | .arr k p rows => some (k, p, rows)
  | _ => none
def hcellsR (H : AHeap) (b : Nat) : Option (List AV) := ob (hgetR H b) cellsR
theorem hcellsR_eq (H : AHeap) (b : Nat) : hcellsR H b = hcells H b := by
  simp only [hcellsR, ob_eq, hgetR_eq, hcells]
  cases hget H b with
  | none => rfl
  | some o =>
    cases o with
    | ro o => cases o <;> rfl
    | _ => rfl
def hcellsWR (H : AHeap) (b : Nat) : Option (List AV) := ob (hgetR H b) cellsWR
theorem hcellsWR_eq (H : AHeap) (b : Nat) : hcellsWR H b = hcellsW H b := by
  simp only [hcellsWR, ob_eq, hgetR_eq, hcellsW]
  cases hget H b with
  | none => rfl
  | some o => cases o <;> rfl
def harrR (H : AHeap) (b : Nat) : Option (Nat × Bool × List (List AV)) := ob (hgetR H b) arrR
theorem harrR_eq (H : AHeap) (b : Nat) : harrR H b = harr H b := by
  simp only [harrR, ob_eq, hgetR_eq, harr]
  cases hget H b with
  | none => rfl
  | some o =>
    cases o with
    | ro o => cases o <;> rfl
    | _ => rfl
def harrWR (H : AHeap) (b : Nat) : Option (Nat × Bool × List (List AV)) := ob (hgetR H b) arrWR
theorem harrWR_eq (H : AHeap) (b : Nat) : harrWR H b = harrW H b := by
  simp only [harrWR, ob_eq, hgetR_eq, harrW]
  cases hget H b with
  | none => rfl
  | some o => cases o <;> rfl
def dropO (o : Nat) (cs : Option (List AV)) : Option (List AV) := Option.rec none (fun cs => some (Bool.rec (cs.drop o) cs (Nat.beq o 0))) cs
theorem dropO_eq (o : Nat) (cs : Option (List AV)) : dropO o cs = cs.map (·.drop o) := by
  cases cs with
  | none => rfl
  | some cs =>
    simp only [dropO]
    cases h : Nat.beq o 0 with
    | false => rfl
    | true => rw [Nat.eq_of_beq_eq_true h]; rfl
def ptrCellsR (H : AHeap) (p : AV) : Option (List AV) :=
  match p with
  | .ptr b o => dropO o (hcellsR H b)
  | .eptr b n i o => ob (harrR H b) (fun q => Prod.rec (fun _ q => Prod.rec (fun _ rows => Bool.rec none (dropO o (getR rows i)) (Nat.beq (lenR rows) n)) q) q)
  | .cptr cs => some cs
  | _ => none
theorem ptrCellsR_eq (H : AHeap) (p : AV) : ptrCellsR H p = ptrCells H p := by
  cases p with
  | ptr b o =>
    simp only [ptrCellsR, dropO_eq, hcellsR_eq, ptrCells]
    cases hcells H b <;> rfl
  | eptr b n i o =>
    simp only [ptrCellsR, dropO_eq, harrR_eq, ob_eq, getR_eq, lenR_eq, ptrCells]
    cases harr H b with
    | none => rfl
    | some q =>
      obtain ⟨k, pb, rows⟩ := q
      simp only [Option.bind_some]
      cases Nat.beq rows.length n with
      | false => rfl
      | true => simp only [if_true]; cases rows[i]? <;> rfl
  | _ => rfl
end
end Am
