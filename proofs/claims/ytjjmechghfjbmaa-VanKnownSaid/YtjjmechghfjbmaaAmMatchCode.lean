/- When abstract code stands for the program's. -/
import Derived.Test.YtjjmechghfjbmaaAmPrim
set_option linter.unusedVariables false
set_option linter.unusedSimpArgs false
set_option linter.unnecessarySimpa false
namespace Am
open Go

def nodupB : List Nat → Bool
  | [] => true
  | x :: l => !l.contains x && nodupB l
theorem nodupB_iff : ∀ {l : List Nat}, nodupB l = true → l.Nodup
  | [], _ => .nil
  | x :: l, h => by
    simp only [nodupB, Bool.and_eq_true, Bool.not_eq_true', List.contains_eq_mem, decide_eq_false_iff_not] at h
    exact List.nodup_cons.2 ⟨h.1, nodupB_iff h.2⟩

def matchGuard (ops : Array Oper) : Option (Nat × Bool) → Option (Nat × Bool) → Bool
  | none, none => true
  | some (j, want), some (t, want') => want == want' && (match ops[j]? with | some q => q.dst == some t | none => false)
  | _, _ => false

def matchOper (P : Program) (ops : Array Oper) (nt : Nat) (ao : AOper) : Bool :=
  match ops[ao.src]? with
  | none => false
  | some o => matchOp P o.op ao.op && opOk ao.op && o.dst == ao.dst && (match ao.dst with | some d => decide (d < nt) | none => true) && matchGuard ops o.guard ao.guard

/-! ### orders -/
/-- What must come ahead of each operation: a number's bits. -/
def masks (ops : List Oper) (acc : List Nat) : List Nat :=
  match ops with
  | [] => acc
  | o :: l => masks l (acc ++ [o.after.toList.foldl (fun m e => if Region.binds .any e then m ||| 2 ^ e.on ||| acc.getD e.on 0 else m) 0])

def readsA (op : AOp) : Bool := (addrOf op).isSome || (match op with | .call .. => true | _ => false) || writes op
/-- The operations that read no memory but a box of their own address. -/
def isR (op : AOp) : Bool := (addrOf op).isSome

def opdSlots : Opd → List Nat
  | .t i => [i]
  | _ => []
def optSlots : Option Opd → List Nat
  | some x => opdSlots x
  | none => []
def slotsOf : AOp → List Nat
  | .mv x | .box _ x _ | .load _ x | .nilck x | .un _ x | .conv _ x | .idc x | .sliceA _ _ x | .fieldAddr _ x | .field _ _ x | .range x _ | .next x | .extract x _ | .lenS x | .lenL x | .lenM x => opdSlots x
  | .pick x y z | .mupd _ _ x y z => opdSlots x ++ opdSlots y ++ opdSlots z
  | .nil _ _ | .alloc _ _ _ | .mkmap _ => []
  | .build _ ps => ps.flatMap fun q => opdSlots q.2.2
  | .lits _ _ _ ps _ | .xlits _ _ _ ps => ps.flatMap fun q => opdSlots q.2
  | .store _ x y | .bin _ x y | .beq _ x y | .cmp _ _ x y | .idxS _ x y | .idxA _ _ x y | .idxStr x y | .idxAgg _ _ _ x y | .lookup _ _ _ x y _ | .append _ _ x y _ _ | .copy _ x y | .mkslice _ _ _ x y _ => opdSlots x ++ opdSlots y
  | .mkfn _ x y => x.flatMap opdSlots ++ y.flatMap opdSlots
  | .sliceS x l h | .sliceL _ x l h | .sliceQ _ x l h => opdSlots x ++ optSlots l ++ optSlots h
  | .mm _ xs => xs.flatMap opdSlots
  | .cut _ x h _ => opdSlots x ++ optSlots h
  | .call f as _ _ => opdSlots f ++ as.flatMap opdSlots
/-- All slots that an operation looks at. -/
def seesOf (o : AOper) : List Nat := slotsOf o.op ++ (match o.guard with | some (t, _) => [t] | none => []) ++ o.hida.map (·.1)

def apartB (l m : List Nat) : Bool := l.all fun x => !m.contains x
def subB (l m : List Nat) : Bool := l.all fun x => m.contains x
def dstApart (a x : AOper) : Bool :=
  (match a.dst with | some d => !(seesOf x).contains d && !(x.dst == some d) | none => true) && (match x.dst with | some d => !(seesOf a).contains d | none => true)

/-- Operations a and x (a ahead of x in the list; n writers from a on, ahead of x) that may change places. -/
def pairOk (a x : AOper) (n : Nat) : Bool :=
  dstApart a x &&
  (match writes a.op, writes x.op with
   | false, false => (!readsA a.op || subB (ranksOf x.op) a.hid) && (!readsA x.op || subB (ranksOf a.op) x.hid)
   | true, false => if isR x.op then Nat.ble n x.inc else !readsA x.op && subB (ranksOf x.op) a.hid
   | false, true => !readsA a.op && subB (ranksOf a.op) x.hid
   | true, true => false)

def okAfter (ms : List Nat) (a : AOper) : Nat → List AOper → Bool
  | _, [] => true
  | n, x :: l => ((ms.getD x.src 0).testBit a.src || pairOk a x n) && okAfter ms a (if writes x.op then n + 1 else n) l
def pairsOk (ms : List Nat) : List AOper → Bool
  | [] => true
  | a :: l => okAfter ms a (if writes a.op then 1 else 0) l && pairsOk ms l

/-- What is asked of an operation by itself, where the order is drawn. -/
def drawOne (o : AOper) : Bool := (writes o.op || o.hida.isEmpty) && apartB (ranksOf o.op) o.hid

/-- All edges go back. -/
def edgesBack (ops : List Oper) : Bool := ops.zipIdx.all fun x => x.1.after.toList.all fun e => !Region.binds .any e || decide (e.on < x.2)

def drawOk (ops : Array Oper) (l : List AOper) : Bool :=
  edgesBack ops.toList && pairsOk (masks ops.toList []) l && l.all drawOne && nodupB (l.map (·.src)) && l.length == ops.size

def noRF : ACode → Bool
  | .seq a b | .cond _ a b => noRF a && noRF b
  | .block _ a | .loop _ _ a | .scope a => noRF a
  | .rangeFunc .. => false
  | _ => true

def matchRegion (P : Program) (nt : Nat) (ops : Array Oper) (draw draw' : Bool) (nres : Nat) (l : List AOper) : Bool :=
  draw == draw' && (l.all fun o => matchOper P ops nt o) && ((l.flatMap fun o => ranksOf o.op).all fun r => decide (r < nres)) && nodupB (l.flatMap fun o => ranksOf o.op) &&
  (if draw then drawOk ops l else l.map (·.src) == List.range ops.size)

def matchCode (P : Program) (nt : Nat) : Code → ACode → Bool
  | .skip, .skip => true
  | .label _, .skip => true
  | .region _ ops d, .region d' nres _ l _ => matchRegion P nt ops d d' nres l
  | .seq a b, .seq a' b' => matchCode P nt a a' && matchCode P nt b b'
  | .cond c a b, .cond c' a' b' => matchOpd c c' && matchCode P nt a a' && matchCode P nt b b'
  | .block id a, .block id' a' => id == id' && matchCode P nt a a'
  | .loop a, .loop _ _ a' => matchCode P nt a a'
  | .rangeFunc f ps as bd, .rangeFunc f' ps' as' bd' => matchOpd f f' && ps.toList == ps' && (ps'.all fun t => decide (t < nt)) && noRF as' && noRF bd' && matchCode P nt as as' && matchCode P nt bd bd'
  | .scope a, .scope a' => matchCode P nt a a'
  | .exit id, .exit id' => id == id'
  | .ret, .ret => true
  | _, _ => false

def matchResult (P : Program) : ResultVar → ARes → Bool
  | .tmp t, .tmp t' => t == t'
  | .cell a t, .cell a' k => a == a' && sizeIs P t k && (match k with | some 0 => false | _ => true)
  | _, _ => false
def matchResults (P : Program) : List ResultVar → List ARes → Bool
  | [], [] => true
  | x :: l, y :: m => matchResult P x y && matchResults P l m
  | _, _ => false

def matchFunc (P : Program) (fn : Func) (af : AFunc) : Bool :=
  fn.name != "runtime.NumGoroutine" && (match fn.body with | some c => matchCode P fn.ntmps c af.body | none => false) && decide (af.nargs ≤ fn.ntmps) && matchResults P fn.results.toList af.results

def TabOk (P : Program) (T : Tab) : Prop := ∀ i af, T i = some af → ∃ fn, P.funcs[i]? = some fn ∧ matchFunc P fn af = true
end Am
