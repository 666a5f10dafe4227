/- Runs in pieces, by the quick evaluator. -/
import Derived.Test.YtjjmechghfjbmaaAmQuick
import Derived.Test.YtjjmechghfjbmaaAmRules
set_option linter.unusedVariables false
set_option linter.unusedSimpArgs false
set_option linter.unnecessarySimpa false
namespace Am
open Go
variable {T : Tab}
theorem CodeR.of {ac : ACode} {st st' : St} {e : Ex} (n : Nat) (h : (machR T n).code ac st = some (e, st')) : CodeR T ac st e st' := ⟨n, by rw [← machR_eq]; exact h⟩
theorem CallR.of {c : Sc} {H H' : AHeap} {f : AV} {args rs : List AV} (n : Nat) (h : (machR T n).call c H f args = some (rs, H')) : CallR T c H f args rs H' := ⟨n, by rw [← machR_eq]; exact h⟩
noncomputable def opers3R (M : Mach) (c : Sc) (n0 : Nat) (l : List AOper) (x : OS) : Option OS := opers3 M c n0 l x
theorem OpsR.of {c : Sc} {n0 : Nat} {l : List AOper} {x y : OS} (n : Nat) (h : opers3 (machR T n) c n0 l x = some y) : OpsR T c n0 l x y := ⟨n, by rw [← machR_eq]; exact h⟩

/-- Some rounds of a loop. -/
def iterB (M : Mach) (tr : Bool) (live : List Nat) (body : ACode) : Nat → St → Option St
  | 0, st => some st
  | n + 1, st => match M.code body (loopIn tr live st) with
    | some (.normal, st1) => match loopNext tr live st st1 with
      | some st2 => iterB M tr live body n st2
      | none => none
    | _ => none
theorem CodeR.iter {ac body : ACode} {tr : Bool} {live : List Nat} {k n : Nat} {st st1 st' : St} {e : Ex} (hac : ac = .loop tr live body) (h : iterB (machR T n) tr live body k st = some st1) (h2 : CodeR T ac st1 e st') : CodeR T ac st e st' := by
  rw [machR_eq] at h
  induction k generalizing st with
  | zero => simp only [iterB, Option.some.injEq] at h; subst h; exact h2
  | succ k ih =>
    simp only [iterB] at h
    split at h
    · next st2 e1 =>
      split at h
      · next st3 e2 => exact CodeR.loop hac rfl ⟨n, e1⟩ e2 (ih h)
      · cases h
    · cases h

/-- A piece of code: the way to it. -/
def sub : ACode → List Nat → ACode
  | c, [] => c
  | .seq a b, k :: l => match k with | 0 => sub a l | _ => sub b l
  | .cond _ a b, k :: l => match k with | 0 => sub a l | _ => sub b l
  | .block _ a, _ :: l | .loop _ _ a, _ :: l | .scope a, _ :: l => sub a l
  | .rangeFunc _ _ a b, k :: l => match k with | 0 => sub a l | _ => sub b l
  | c, _ => c
def opF : AOp → Opd
  | .call f _ _ _ => f
  | _ => .t 0
def opArgs : AOp → List Opd
  | .call _ as _ _ => as
  | _ => []
def opOwn : AOp → List (List (Nat × Nat))
  | .call _ _ own _ => own
  | _ => []
/-- An operation of a region. -/
def opAt (l : List AOper) (i : Nat) : AOper := (l.drop i).headD default
/-- The operations of a region. -/
def opsOf : ACode → List AOper
  | .region _ _ _ ops _ => ops
  | _ => []
end Am
