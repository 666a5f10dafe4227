/- The abstract machine: values, heap, code and evaluator. -/
import GoSem.Step
set_option linter.unusedVariables false
set_option linter.unusedSimpArgs false
set_option linter.unnecessarySimpa false
namespace Am
open Go

/-- Abstract values. 'seq': a slice whose cells never change (no box is named in it); 'xseq': the same, but cells may name boxes; 'asl': a slice over a whole array box, when it had n elements. -/
inductive AV where
  | lit (v : Value)
  | nils (k : Nat)
  | seq (k : Nat) (rows : List (List AV))
  | xseq (k : Nat) (rows : List (List AV))
  | ptr (b o : Nat)
  | itr (b : Nat)
  | eptr (b n i o : Nat)
  | cptr (cs : List AV)
  | asl (b n : Nat)
  | csl (b o k n : Nat)
  | mp (b : Nat)
  | fn (f : Fn) (first cap : List AV)
  | agg (cs : List AV)
  | tup (cs : List AV)
  | fresh (k : Nat) (rows : List (List AV))
  | undef
  deriving Inhabited

mutual
/-- All boxes named are below N. -/
def AV.bd (N : Nat) : AV → Bool
  | .lit _ | .nils _ | .seq _ _ | .fresh _ _ | .undef => true
  | .xseq _ rows => bdR N rows
  | .ptr b _ | .itr b | .eptr b _ _ _ | .asl b _ | .csl b _ _ _ | .mp b => Nat.blt b N
  | .cptr cs => bdL N cs
  | .fn (.yield l) a c => Nat.blt l N && bdL N a && bdL N c
  | .fn _ a c => bdL N a && bdL N c
  | .agg cs | .tup cs => bdL N cs
def bdL (N : Nat) : List AV → Bool
  | [] => true
  | x :: l => x.bd N && bdL N l
def bdR (N : Nat) : List (List AV) → Bool
  | [] => true
  | x :: l => bdL N x && bdR N l
end

/-- Cells that may lie in memory that never changes. -/
def AV.frz : AV → Bool
  | .lit _ | .nils _ | .seq _ _ => true
  | _ => false

/-- No box is named (seen at the top). -/
def AV.plain : AV → Bool
  | .lit _ | .nils _ | .seq _ _ | .undef => true
  | _ => false

def AV.cellsOf : AV → List AV
  | .agg cs => cs
  | .tup _ | .undef | .fresh _ _ => []
  | v => [v]

abbrev AV.i (n : Int) : AV := .lit (.int .i64 n)
abbrev AV.b (t : Bool) : AV := .lit (.bool t)
abbrev AV.s (x : ByteArray) : AV := .lit (.string x)

inductive Opd where
  | t (i : Nat)
  | c (v : AV)
  | f (i : Nat)
  deriving Inhabited

abbrev Slots := List (Nat × AV)

def sget : Slots → Nat → Option AV
  | [], _ => none
  | x :: s, t => bif Nat.beq x.1 t then some x.2 else sget s t

def sput (s : Slots) : Option Nat → AV → Slots
  | none, _ => s
  | some t, v => (t, v) :: s

def restrict (s : Slots) : List Nat → Slots
  | [] => []
  | t :: l => match sget s t with
    | some v => (t, v) :: restrict s l
    | none => restrict s l

def ev (s : Slots) : Opd → Option AV
  | .t i => sget s i
  | .c v => some v
  | .f i => some (.fn (.func i) [] [])

def evs (s : Slots) : List Opd → Option (List AV)
  | [] => some []
  | x :: l => (ev s x).bind fun v => (evs s l).map (v :: ·)

/-- What becomes of a slice among the results of a call: 'none': it is frozen; 'some r': it becomes the array box of rank r. -/
inductive AOp where
  | mv (x : Opd)
  | pick (c a b : Opd)
  | nil (k r : Nat)
  | alloc (zs : List AV) (owns : List (Nat × Nat × Nat)) (r : Nat)
  | box (n : Nat) (x : Opd) (r : Nat)
  | build (z : List AV) (parts : List (Nat × Nat × Opd))
  | lits (k : Nat) (z : List AV) (n : Nat) (parts : List (Nat × Opd)) (own : Option Nat)
  | xlits (k : Nat) (z : List AV) (n : Nat) (parts : List (Nat × Opd))
  | load (k : Option Nat) (a : Opd)
  | store (k : Nat) (a v : Opd)
  | nilck (x : Opd)
  | bin (op : BinOp) (x y : Opd)
  | beq (neg : Bool) (x y : Opd)
  | cmp (neg : Bool) (ks : List Nat) (x y : Opd)
  | un (op : UnOp) (x : Opd)
  | conv (k : IntKind) (x : Opd)
  | idc (x : Opd)
  | mkfn (f : Fn) (first cap : List Opd)
  | mkmap (r : Nat)
  | mkslice (k bytes : Nat) (z : List AV) (len cap : Opd) (r : Nat)
  | sliceS (x : Opd) (lo hi : Option Opd)
  | sliceL (k : Nat) (x : Opd) (lo hi : Option Opd)
  | sliceQ (k : Nat) (x : Opd) (lo hi : Option Opd)
  | sliceA (k n : Nat) (x : Opd)
  | fieldAddr (off : Nat) (x : Opd)
  | field (k : Option Nat) (off : Nat) (x : Opd)
  | idxS (k : Nat) (x i : Opd)
  | idxA (k n : Nat) (x i : Opd)
  | idxStr (x i : Opd)
  | idxAgg (k : Option Nat) (sz n : Nat) (x i : Opd)
  | lookup (z : AV) (ag : Bool) (ks : List Nat) (x i : Opd) (ok : Bool)
  | mupd (ag : Bool) (ks : List Nat) (m k v : Opd)
  | range (x : Opd) (r : Nat)
  | next (x : Opd)
  | extract (x : Opd) (i : Nat)
  | lenS (x : Opd)
  | lenL (x : Opd)
  | lenM (x : Opd)
  | mm (max : Bool) (xs : List Opd)
  | append (k bytes : Nat) (s x : Opd) (r : Option Nat) (fz : Bool)
  | copy (k : Nat) (d s : Opd)
  | cut (k : Nat) (x : Opd) (hi : Option Opd) (r : Nat)
  | call (f : Opd) (args : List Opd) (own : List (List (Nat × Nat))) (pure : Bool)
  deriving Inhabited

/-- 'src': which of the region's operations this is. 'hid': ranks of boxes of this region that this operation must not see; 'hida': ways to boxes that it must not see (a slot's pointer, then the pointers in cells); 'inc': how many of the last writers ahead of it may come behind it: its box is hidden from them. -/
structure AOper where
  dst : Option Nat
  op : AOp
  guard : Option (Nat × Bool) := none
  hid : List Nat := []
  hida : List (Nat × List Nat) := []
  inc : Nat := 0
  src : Nat := 0
  deriving Inhabited

/-- A plain operation, number i, with a slot for its value; or without. -/
def q (i d : Nat) (op : AOp) : AOper := { dst := some d, op, src := i }
def r (i : Nat) (op : AOp) : AOper := { dst := none, op, src := i }

inductive ACode where
  | skip
  | region (draw : Bool) (nres : Nat) (pre : List Nat) (ops : List AOper) (live : List Nat)
  | seq (a b : ACode)
  | cond (c : Opd) (thn els : ACode)
  | block (id : Nat) (body : ACode)
  | loop (tr : Bool) (live : List Nat) (body : ACode)
  | rangeFunc (f : Opd) (params : List Nat) (assign body : ACode)
  | scope (body : ACode)
  | exit (id : Nat)
  | ret
  deriving Inhabited

inductive Ex where
  | normal
  | exit (id : Nat)
  | ret
  deriving Inhabited

/-- Objects of the abstract heap. -/
inductive AO where
  | dead
  | cells (cs : List AV)
  | arr (k : Nat) (pub : Bool) (rows : List (List AV))
  | map (es : List (AV × AV))
  | iter (s : ByteArray) (pos : Nat)
  | loop (f : Nat) (s : Slots) (params : List Nat) (assign body : ACode) (busy : Bool) (pend : Option Ex)
  | ro (o : AO)
  deriving Inhabited

abbrev AHeap := List AO

def AO.rd : AO → AO
  | .ro o => o
  | o => o

def AO.isW : AO → Bool
  | .dead | .ro _ => false
  | _ => true

def AO.toRo : AO → AO
  | .dead => .dead
  | .ro o => .ro o
  | o => .ro o

def hget (H : AHeap) (b : Nat) : Option AO := H[b]?
def hset (H : AHeap) (b : Nat) (o : AO) : AHeap := H.set b o

def hcells (H : AHeap) (b : Nat) : Option (List AV) :=
  match hget H b with
  | some (.cells cs) | some (.ro (.cells cs)) => some cs
  | _ => none
def hcellsW (H : AHeap) (b : Nat) : Option (List AV) :=
  match hget H b with
  | some (.cells cs) => some cs
  | _ => none
/-- k, pub, rows -/
def harr (H : AHeap) (b : Nat) : Option (Nat × Bool × List (List AV)) :=
  match hget H b with
  | some (.arr k p rows) | some (.ro (.arr k p rows)) => some (k, p, rows)
  | _ => none
def harrW (H : AHeap) (b : Nat) : Option (Nat × Bool × List (List AV)) :=
  match hget H b with
  | some (.arr k p rows) => some (k, p, rows)
  | _ => none
def hmap (H : AHeap) (b : Nat) : Option (List (AV × AV)) :=
  match hget H b with
  | some (.map es) | some (.ro (.map es)) => some es
  | _ => none
def hmapW (H : AHeap) (b : Nat) : Option (List (AV × AV)) :=
  match hget H b with
  | some (.map es) => some es
  | _ => none

def hide (H : AHeap) : List Nat → AHeap
  | [] => H
  | b :: l => hset (hide H l) b .dead
/-- Lay the boxes of l back as they are in G. -/
def unhide (G H : AHeap) : List Nat → AHeap
  | [] => H
  | b :: l => match hget G b with
    | some o => hset (unhide G H l) b o
    | none => unhide G H l

/-- The scopes: the number of boxes at the entry of the innermost one, and of those around it. -/
structure Sc where
  cur : Nat
  outer : List Nat
  deriving Inhabited

/-- May v be stored into box b? -/
def Sc.ok (c : Sc) (b : Nat) (v : AV) : Bool :=
  Nat.ble c.cur b || v.plain || (Nat.ble c.cur b || v.bd c.cur) && c.outer.all fun B => Nat.ble B b || v.bd B

def Sc.okL (c : Sc) (b : Nat) : List AV → Bool
  | [] => true
  | v :: l => c.ok b v && Sc.okL c b l

/-! ### operations -/
def splice (cs : List AV) (o : Nat) (new : List AV) : List AV := cs.take o ++ new ++ cs.drop (o + new.length)

/-- A value as it goes to memory that never changes: a slice over an array box is frozen (the box is public from then on). -/
def frv (H : AHeap) : AV → Option (AV × AHeap)
  | .asl b n => match harr H b with
    | some (k, true, rows) => if Nat.beq rows.length n then some (.seq k rows, H) else none
    | some (k, false, rows) => match harrW H b with
      | some _ => if Nat.beq rows.length n then some (.seq k rows, hset H b (.arr k true rows)) else none
      | none => none
    | none => none
  | v => some (v, H)
def frvL (H : AHeap) : List AV → Option (List AV × AHeap)
  | [] => some ([], H)
  | v :: l => match frv H v with
    | none => none
    | some (v', H') => match frvL H' l with
      | none => none
      | some (l', H'') => some (v' :: l', H'')
/-- An argument or a result: aggregates cell by cell. -/
def frvA (H : AHeap) : AV → Option (AV × AHeap)
  | .agg cs => (frvL H cs).map fun r => (.agg r.1, r.2)
  | .nils k => some (.seq k [], H)
  | v => frv H v
def frvAs (H : AHeap) : List AV → Option (List AV × AHeap)
  | [] => some ([], H)
  | v :: l => match frvA H v with
    | none => none
    | some (v', H') => match frvAs H' l with
      | none => none
      | some (l', H'') => some (v' :: l', H'')

def binInt (op : BinOp) (k : IntKind) (a b : Int) : Option Value :=
  match op with
  | .add => some (.int k (k.wrap (a + b)))
  | .sub => some (.int k (k.wrap (a - b)))
  | .mul => some (.int k (k.wrap (a * b)))
  | .quo => if b = 0 then none else some (.int k (k.wrap (a.tdiv b)))
  | .rem => if b = 0 then none else some (.int k (a.tmod b))
  | .and => some (.int k (k.wrap (BitVec.ofInt k.bits a &&& BitVec.ofInt k.bits b).toNat))
  | .or => some (.int k (k.wrap (BitVec.ofInt k.bits a ||| BitVec.ofInt k.bits b).toNat))
  | .xor => some (.int k (k.wrap (BitVec.ofInt k.bits a ^^^ BitVec.ofInt k.bits b).toNat))
  | .andNot => some (.int k (k.wrap (BitVec.ofInt k.bits a &&& ~~~ BitVec.ofInt k.bits b).toNat))
  | .eql => some (.bool (a == b))
  | .neq => some (.bool (a != b))
  | .lss => some (.bool (a < b))
  | .leq => some (.bool (a ≤ b))
  | .gtr => some (.bool (a > b))
  | .geq => some (.bool (a ≥ b))
  | _ => none

def binStr (op : BinOp) (x y : ByteArray) : Option Value :=
  match op with
  | .add => if x.size + y.size ≤ 1099511627776 then some (.string (x ++ y)) else none
  | .eql => some (.bool (x.data.toList == y.data.toList))
  | .neq => some (.bool !(x.data.toList == y.data.toList))
  | .lss => some (.bool (Op.bytesLess x.data.toList y.data.toList))
  | .leq => some (.bool (Op.bytesLess x.data.toList y.data.toList || x.data.toList == y.data.toList))
  | .gtr => some (.bool !(Op.bytesLess x.data.toList y.data.toList || x.data.toList == y.data.toList))
  | .geq => some (.bool !(Op.bytesLess x.data.toList y.data.toList))
  | _ => none

def binV (op : BinOp) (x y : AV) : Option AV :=
  match x, y with
  | .lit (.int k a), .lit (.int k' b) =>
    match op with
    | .shl => if b < 0 then none else some (.lit (.int k (k.wrap (a * 2 ^ (min b.toNat k.bits)))))
    | .shr => if b < 0 then none else some (.lit (.int k (a.fdiv (2 ^ (min b.toNat k.bits)))))
    | _ => if k = k' then (binInt op k a b).map .lit else none
  | .lit (.string a), .lit (.string b) => (binStr op a b).map .lit
  | _, _ => none

/-- Are two literals the same (of kinds that are compared by Go)? -/
def eqLit : AV → AV → Option Bool
  | .lit (.int k a), .lit (.int k' b) => if k = k' then some (a == b) else none
  | .lit (.bool a), .lit (.bool b) => some (a == b)
  | .lit (.string a), .lit (.string b) => some (a.data.toList == b.data.toList)
  | _, _ => none
def eqLits : List AV → List AV → Option Bool
  | [], [] => some true
  | x :: l, y :: m => match eqLit x y with
    | some true => eqLits l m
    | some false => some false
    | none => none
  | _, _ => none

def unV (op : UnOp) (x : AV) : Option AV :=
  match op, x with
  | .not, .lit (.bool b) => some (.lit (.bool !b))
  | .neg, .lit (.int k n) => some (.lit (.int k (k.wrap (0 - n))))
  | _, _ => none

/-- Are these literals of these kinds (0: integers, 1: bools, 2: strings)? -/
def kinds : List Nat → List AV → Bool
  | [], [] => true
  | 0 :: ks, .lit (.int _ _) :: l | 1 :: ks, .lit (.bool _) :: l | 2 :: ks, .lit (.string _) :: l => kinds ks l
  | _, _ => false

/-- The cells of a map's key. -/
def keyCells : Bool → AV → Option (List AV)
  | true, .agg cs => some cs
  | false, .lit v => some [.lit v]
  | _, _ => none
def findKey (ag : Bool) (ks : List Nat) (k : List AV) : List (AV × AV) → Nat → Option (Option (Nat × AV))
  | [], _ => some none
  | e :: es, i => match keyCells ag e.1 with
    | some l => if kinds ks l then match eqLits k l with
        | some true => some (some (i, e.2))
        | some false => findKey ag ks k es (i + 1)
        | none => none
      else none
    | none => none

def fillC (cs : List AV) : List (Nat × Nat × AV) → Option (List AV)
  | [] => some cs
  | (o, n, v) :: l => if Nat.beq v.cellsOf.length n && Nat.ble (o + n) cs.length && Nat.blt 0 n then fillC (splice cs o v.cellsOf) l else none
def fillR (k : Nat) (rows : List (List AV)) : List (Nat × AV) → Option (List (List AV))
  | [] => some rows
  | (i, v) :: l => if Nat.beq v.cellsOf.length k && Nat.blt i rows.length then fillR k (rows.set i v.cellsOf) l else none

def evParts (s : Slots) : List (Nat × Nat × Opd) → Option (List (Nat × Nat × AV))
  | [] => some []
  | (o, n, x) :: l => (ev s x).bind fun v => (evParts s l).map ((o, n, v) :: ·)
def evPartsR (s : Slots) : List (Nat × Opd) → Option (List (Nat × AV))
  | [] => some []
  | (i, x) :: l => (ev s x).bind fun v => (evPartsR s l).map ((i, v) :: ·)

def frzR (rows : List (List AV)) : Bool := rows.all fun r => r.all AV.frz

def evInt (s : Slots) (x : Opd) : Option Int :=
  match ev s x with
  | some (.lit (.int _ n)) => some n
  | _ => none
def bnd (s : Slots) (d : Int) : Option Opd → Option Int
  | none => some d
  | some x => evInt s x

def mmV (mx : Bool) : AV → List AV → Option AV
  | a, [] => some a
  | .lit (.int k x), .lit (.int k' y) :: l => if k = k' then mmV mx (.lit (.int k (if mx then (if y > x then y else x) else (if y < x then y else x)))) l else none
  | _, _ => none

/-- The rows of a slice that is read. -/
def rowsOf (H : AHeap) : AV → Option (List (List AV))
  | .nils _ => some []
  | .seq _ rows => some rows
  | .asl b n => match harr H b with
    | some (_, _, rows) => if Nat.beq rows.length n then some rows else none
    | none => none
  | .csl b o k n => match hcells H b with
    | some cs => if Nat.ble (o + n * k) cs.length then some ((List.range n).map fun i => (cs.drop (o + i * k)).take k) else none
    | none => none
  | _ => none
def kOf (H : AHeap) : AV → Option Nat
  | .nils k | .seq k _ | .csl _ _ k _ => some k
  | .asl b _ => (harr H b).map (·.1)
  | _ => none

/-- The cells from where a pointer points on. -/
def ptrCells (H : AHeap) : AV → Option (List AV)
  | .ptr b o => match hcells H b with
    | some cs => some (cs.drop o)
    | none => none
  | .eptr b n i o => match harr H b with
    | some (_, _, rows) => if Nat.beq rows.length n then match rows[i]? with
        | some r => some (r.drop o)
        | none => none
      else none
    | none => none
  | .cptr cs => some cs
  | _ => none

def setOwns (n0 : Nat) : List (Nat × Nat × Nat) → List AV → AHeap → List AV × AHeap
  | [], zs, H => (zs, H)
  | (j, r, k) :: l, zs, H => setOwns n0 l (zs.set j (.asl (n0 + r) 0)) (hset H (n0 + r) (.arr k false []))

/-- An operation that calls nothing. n0: the first of the region's own boxes. -/
def prim (c : Sc) (n0 : Nat) (s : Slots) (H : AHeap) : AOp → Option (AV × AHeap)
  | .mv x => (ev s x).map (·, H)
  | .pick c a b => match ev s c with
    | some (.lit (.bool true)) => (ev s a).map (·, H)
    | some (.lit (.bool false)) => (ev s b).map (·, H)
    | _ => none
  | .nil k r => some (.asl (n0 + r) 0, hset H (n0 + r) (.arr k false []))
  | .alloc zs owns r =>
    let (zs, H) := setOwns n0 owns zs H
    some (.ptr (n0 + r) 0, hset H (n0 + r) (.cells zs))
  | .box n x r => match ev s x with
    | some v => if Nat.beq v.cellsOf.length n then some (.ptr (n0 + r) 0, hset H (n0 + r) (.cells v.cellsOf)) else none
    | none => none
  | .build z parts => (evParts s parts).bind fun ps => (fillC z ps).map fun cs => (.agg cs, H)
  | .lits k z n parts own => (evPartsR s parts).bind fun ps => (fillR k (List.replicate n z) ps).bind fun rows =>
      if frzR rows then match own with
        | none => some (.seq k rows, H)
        | some r => some (.asl (n0 + r) n, hset H (n0 + r) (.arr k false rows))
      else none
  | .xlits k z n parts => (evPartsR s parts).bind fun ps => (fillR k (List.replicate n z) ps).map fun rows => (.xseq k rows, H)
  | .load none a => match ev s a with
    | some p => match ptrCells H p with
      | some (x :: _) => some (x, H)
      | _ => none
    | none => none
  | .load (some k) a => match ev s a with
    | some p => match ptrCells H p with
      | some cs => if Nat.ble k cs.length then some (.agg (cs.take k), H) else none
      | none => none
    | none => none
  | .store k a v => match ev s a, ev s v with
    | some (.ptr b o), some v => match hcellsW H b with
      | some cs => if Nat.beq v.cellsOf.length k && Nat.ble (o + k) cs.length && c.okL b v.cellsOf then
          some (.tup [], hset H b (.cells (splice cs o v.cellsOf))) else none
      | none => none
    | some (.eptr b n i o), some v => match frvL H v.cellsOf with
      | none => none
      | some (cs, H') => match harrW H' b with
        | some (kk, false, rows) => match rows[i]? with
          | some r => if Nat.beq rows.length n && Nat.beq cs.length k && Nat.ble (o + k) r.length && cs.all AV.frz then
              some (.tup [], hset H' b (.arr kk false (rows.set i (splice r o cs)))) else none
          | none => none
        | _ => none
    | _, _ => none
  | .nilck x => match ev s x with
    | some (.ptr b o) => some (.ptr b o, H)
    | some (.eptr b n i o) => some (.eptr b n i o, H)
    | some (.cptr cs) => some (.cptr cs, H)
    | some (.fn (.func f) a b) => some (.fn (.func f) a b, H)
    | _ => none
  | .bin op x y => match ev s x, ev s y with
    | some x, some y => (binV op x y).map (·, H)
    | _, _ => none
  | .beq neg x y => match ev s x, ev s y with
    | some (.lit (.bool a)), some (.lit (.bool b)) => some (.lit (.bool (if neg then !(a == b) else a == b)), H)
    | _, _ => none
  | .cmp neg ks x y => match ev s x, ev s y with
    | some (.agg a), some (.agg b) => if kinds ks a && kinds ks b then match eqLits a b with
        | some t => some (.lit (.bool (if neg then !t else t)), H)
        | none => none
      else none
    | _, _ => none
  | .un op x => match ev s x with
    | some x => (unV op x).map (·, H)
    | none => none
  | .conv k x => match ev s x with
    | some (.lit (.int _ n)) => some (.lit (.int k (k.wrap n)), H)
    | _ => none
  | .idc x => match ev s x with
    | some (.lit (.string b)) => some (.lit (.string b), H)
    | _ => none
  | .mkfn f first cap => match evs s first, evs s cap with
    | some a, some b => some (.fn f a b, H)
    | _, _ => none
  | .mkmap r => some (.mp (n0 + r), hset H (n0 + r) (.map []))
  | .mkslice k bytes z l cp r => match ev s l, ev s cp with
    | some (.lit (.int .i64 l)), some (.lit (.int .i64 c)) => if l = c ∧ 0 ≤ l ∧ l * bytes ≤ 1099511627776 ∧ l ≤ 1099511627776 then
        some (.asl (n0 + r) l.toNat, hset H (n0 + r) (.arr k false (List.replicate l.toNat z))) else none
    | _, _ => none
  | .sliceS x lo hi => match ev s x with
    | some (.lit (.string b)) => match bnd s 0 lo, bnd s b.size hi with
      | some l, some h => if 0 ≤ l ∧ l ≤ h ∧ h ≤ b.size then some (.lit (.string (b.extract l.toNat h.toNat)), H) else none
      | _, _ => none
    | _ => none
  | .sliceL kk x lo hi => match ev s x with
    | some v => match frvA H v with
      | some (.seq k rows, H') => match bnd s 0 lo, bnd s rows.length hi with
        | some l, some h => if 0 ≤ l ∧ l ≤ h ∧ h ≤ rows.length ∧ k = kk then some (.seq k ((rows.take h.toNat).drop l.toNat), H') else none
        | _, _ => none
      | _ => none
    | none => none
  | .sliceQ kk x lo hi => match ev s x with
    | some (.seq k rows) => match bnd s 0 lo, bnd s rows.length hi with
        | some l, some h => if 0 ≤ l ∧ l ≤ h ∧ h ≤ rows.length ∧ k = kk then some (.seq k ((rows.take h.toNat).drop l.toNat), H) else none
        | _, _ => none
    | _ => none
  | .sliceA k n x => match ev s x with
    | some (.ptr b o) => match hcells H b with
      | some cs => if Nat.ble (o + n * k) cs.length then some (.csl b o k n, H) else none
      | none => none
    | _ => none
  | .fieldAddr off x => match ev s x with
    | some (.ptr b o) => some (.ptr b (o + off), H)
    | some (.eptr b n i o) => some (.eptr b n i (o + off), H)
    | some (.cptr cs) => some (.cptr (cs.drop off), H)
    | _ => none
  | .field k off x => match ev s x with
    | some (.agg cs) => match k with
      | none => (cs[off]?).map (·, H)
      | some k => if Nat.ble (off + k) cs.length then some (.agg ((cs.drop off).take k), H) else none
    | _ => none
  | .idxS k x i => match ev s x, ev s i with
    | some (.seq k' rows), some (.lit (.int _ i)) => if 0 ≤ i ∧ k' = k then match rows[i.toNat]? with
        | some r => some (.cptr r, H)
        | none => none
      else none
    | some (.xseq k' rows), some (.lit (.int _ i)) => if 0 ≤ i ∧ k' = k then match rows[i.toNat]? with
        | some r => some (.cptr r, H)
        | none => none
      else none
    | some (.asl b n), some (.lit (.int _ i)) => match harr H b with
      | some (k', _, rows) => if 0 ≤ i ∧ i < n ∧ k' = k ∧ rows.length = n then some (.eptr b n i.toNat 0, H) else none
      | none => none
    | _, _ => none
  | .idxA k n x i => match ev s x, ev s i with
    | some (.ptr b o), some (.lit (.int _ i)) => if 0 ≤ i ∧ i < n then some (.ptr b (o + i.toNat * k), H) else none
    | some (.eptr b m j o), some (.lit (.int _ i)) => if 0 ≤ i ∧ i < n then some (.eptr b m j (o + i.toNat * k), H) else none
    | some (.cptr cs), some (.lit (.int _ i)) => if 0 ≤ i ∧ i < n then some (.cptr (cs.drop (i.toNat * k)), H) else none
    | _, _ => none
  | .idxStr x i => match ev s x, ev s i with
    | some (.lit (.string b)), some (.lit (.int _ i)) => if 0 ≤ i then (b[i.toNat]?).map fun c => (.lit (.int .u8 c.toNat), H) else none
    | _, _ => none
  | .idxAgg k sz n x i => match ev s x, ev s i with
    | some (.agg cs), some (.lit (.int _ i)) => if 0 ≤ i ∧ i < n then match k with
        | none => (cs[i.toNat * sz]?).map (·, H)
        | some k => if Nat.ble (i.toNat * sz + k) cs.length then some (.agg ((cs.drop (i.toNat * sz)).take k), H) else none
      else none
    | _, _ => none
  | .lookup z ag ks x i ok => match ev s x, ev s i with
    | some m, some key => match (match m with | .mp b => hmap H b | .lit (.map none) => some [] | _ => none), keyCells ag key with
      | some es, some cs => if kinds ks cs then match findKey ag ks cs es 0 with
          | some (some (_, v)) => some (if ok then .tup [v, .lit (.bool true)] else v, H)
          | some none => some (if ok then .tup [z, .lit (.bool false)] else z, H)
          | none => none
        else none
      | _, _ => none
    | _, _ => none
  | .mupd ag ks m k v => match ev s m, ev s k, ev s v with
    | some (.mp b), some key, some v => match hmapW H b, keyCells ag key with
      | some es, some cs => if kinds ks cs && v.cellsOf.all AV.frz && !v.cellsOf.isEmpty then match findKey ag ks cs es 0 with
          | some (some (i, _)) => some (.tup [], hset H b (.map (es.set i (key, v))))
          | some none => some (.tup [], hset H b (.map (es ++ [(key, v)])))
          | none => none
        else none
      | _, _ => none
    | _, _, _ => none
  | .range x r => match ev s x with
    | some (.lit (.string b)) => some (.itr (n0 + r), hset H (n0 + r) (.iter b 0))
    | _ => none
  | .next x => match ev s x with
    | some (.itr b) => match hget H b with
      | some (.iter t pos) => if pos < t.size then
          some (.tup [.lit (.bool true), .lit (.int .i64 pos), .lit (.int .i32 (Utf8.decode t pos).1)], hset H b (.iter t (pos + (Utf8.decode t pos).2)))
        else some (.tup [.lit (.bool false)], H)
      | _ => none
    | _ => none
  | .extract x i => match ev s x with
    | some (.tup cs) => (cs[i]?).map (·, H)
    | _ => none
  | .lenS x => match ev s x with
    | some (.lit (.string b)) => some (.lit (.int .i64 b.size), H)
    | _ => none
  | .lenM x => match ev s x with
    | some (.mp b) => match hmap H b with
      | some es => some (.lit (.int .i64 es.length), H)
      | none => none
    | some (.lit (.map none)) => some (.lit (.int .i64 (0 : Nat)), H)
    | _ => none
  | .lenL x => match ev s x with
    | some (.nils _) => some (.lit (.int .i64 (0 : Nat)), H)
    | some (.seq _ rows) => some (.lit (.int .i64 rows.length), H)
    | some (.xseq _ rows) => some (.lit (.int .i64 rows.length), H)
    | some (.csl _ _ _ n) => some (.lit (.int .i64 n), H)
    | some (.asl b n) => match harr H b with
      | some (_, _, rows) => if rows.length = n then some (.lit (.int .i64 n), H) else none
      | none => none
    | _ => none
  | .mm mx xs => match evs s xs with
    | some (x :: l) => (mmV mx x l).map (·, H)
    | _ => none
  | .append k bytes d x r fz => match ev s d, ev s x with
    | some d, some x => match rowsOf H x, kOf H x with
      | some new, some k' => if Nat.beq k k' && frzR new then match d with
          | .nils _ => if new.length * bytes ≤ 1099511627776 ∧ new.length ≤ 1099511627776 then match fz, r with
              | true, _ => some (.seq k new, H)
              | false, some r => some (.asl (n0 + r) new.length, hset H (n0 + r) (.arr k false new))
              | false, none => none
            else none
          | .asl b n => match harrW H b with
            | some (kk, p, rows) => if Nat.beq rows.length n && Nat.beq kk k && (n + new.length) * bytes ≤ 1099511627776 && n + new.length ≤ 1099511627776 then
                if fz then some (.seq k (rows ++ new), hset H b .dead)
                else some (.asl b (n + new.length), hset H b (.arr k p (rows ++ new))) else none
            | none => none
          | _ => none
        else none
      | _, _ => none
    | _, _ => none
  | .copy k d x => match ev s d, ev s x with
    | some (.asl b n), some x => match harrW H b, rowsOf H x, kOf H x with
      | some (kk, false, rows), some src, some k' => if Nat.beq rows.length n && Nat.beq kk k && Nat.beq k k' && frzR src then
          some (.lit (.int .i64 (min src.length n : Nat)), hset H b (.arr kk false (src.take (min src.length n) ++ rows.drop (min src.length n)))) else none
      | _, _, _ => none
    | _, _ => none
  | .cut _ x hi r => match ev s x with
    | some (.asl b n) => match harrW H b, bnd s n hi with
      | some (k, false, rows), some h => if Nat.beq rows.length n && (0 ≤ h ∧ h ≤ n : Bool) then
          some (.asl (n0 + r) h.toNat, hset (hset H b .dead) (n0 + r) (.arr k false (rows.take h.toNat))) else none
      | _, _ => none
    | _ => none
  | .call .. => none

/-! ### results of a call -/
/-- A cell of a result as it leaves the function whose boxes begin at B: an array of its own is fresh; other slices are frozen. -/
def outC (B : Nat) (H : AHeap) : AV → Option (AV × AHeap)
  | .asl b n => match harrW H b with
    | some (k, false, rows) => if Nat.ble B b then (if Nat.beq rows.length n then some (.fresh k rows, hset H b .dead) else none) else frv H (.asl b n)
    | _ => frv H (.asl b n)
  | .nils k => some (.seq k [], H)
  | v => some (v, H)
def outCs (B : Nat) (H : AHeap) : List AV → Option (List AV × AHeap)
  | [] => some ([], H)
  | v :: l => match outC B H v with
    | none => none
    | some (v', H') => match outCs B H' l with
      | none => none
      | some (l', H'') => some (v' :: l', H'')
def outV (B : Nat) (H : AHeap) : AV → Option (AV × AHeap)
  | .agg cs => (outCs B H cs).map fun r => (.agg r.1, r.2)
  | v => outC B H v
def outVs (B : Nat) (H : AHeap) : List AV → Option (List AV × AHeap)
  | [] => some ([], H)
  | v :: l => match outV B H v with
    | none => none
    | some (v', H') => match outVs B H' l with
      | none => none
      | some (l', H'') => some (v' :: l', H'')

/-- Fresh slices among the results become boxes (own: cell, rank), or are frozen. -/
def rankOf (j : Nat) : List (Nat × Nat) → Option Nat
  | [] => none
  | x :: l => bif Nat.beq x.1 j then some x.2 else rankOf j l
def inC (n0 : Nat) (H : AHeap) (own : List (Nat × Nat)) (j : Nat) : AV → AV × AHeap
  | .fresh k rows => match rankOf j own with
    | some r => (.asl (n0 + r) rows.length, hset H (n0 + r) (.arr k false rows))
    | none => (.seq k rows, H)
  | v => (v, H)
def inCs (n0 : Nat) (H : AHeap) (own : List (Nat × Nat)) : Nat → List AV → List AV × AHeap
  | _, [] => ([], H)
  | j, v :: l => let x := inC n0 H own j v; let y := inCs n0 x.2 own (j + 1) l; (x.1 :: y.1, y.2)
def inV (n0 : Nat) (H : AHeap) (own : List (Nat × Nat)) : AV → AV × AHeap
  | .agg cs => let x := inCs n0 H own 0 cs; (.agg x.1, x.2)
  | v => inC n0 H own 0 v
def inVs (n0 : Nat) (H : AHeap) : List AV → List (List (Nat × Nat)) → List AV × AHeap
  | [], _ => ([], H)
  | v :: l, own => let x := inV n0 H (own.headD []) v; let y := inVs n0 x.2 l own.tail; (x.1 :: y.1, y.2)

def packed : List AV → AV
  | [v] => v
  | l => .tup l

inductive ARes where
  | tmp (t : Nat)
  | cell (t : Nat) (k : Option Nat)
  deriving Inhabited

structure AFunc where
  nargs : Nat
  body : ACode
  results : List ARes
  deriving Inhabited

structure St where
  s : Slots
  H : AHeap
  c : Sc
  deriving Inhabited

def results (s : Slots) (H : AHeap) : List ARes → Option (List AV)
  | [] => some []
  | .tmp t :: l => (sget s t).bind fun v => (results s H l).map (v :: ·)
  | .cell t k :: l => (prim ⟨0, []⟩ 0 s H (.load k (.t t))).bind fun v => (results s H l).map (v.1 :: ·)

def argSlots : Nat → List AV → Slots
  | _, [] => []
  | i, v :: l => (i, v) :: argSlots (i + 1) l

def bdAll (N : Nat) : Slots → Bool
  | [] => true
  | x :: s => x.2.bd N && bdAll N s

/-- The boxes that do not outlive the scope that began at B go, if nothing that stays names them. -/
def trunc (B : Nat) (rs : List AV) (H : AHeap) : AHeap := if bdL B rs then H.take B else H

/-- What calls and code come to with less fuel. -/
structure Mach where
  call : Sc → AHeap → AV → List AV → Option (List AV × AHeap)
  code : ACode → St → Option (Ex × St)

abbrev Tab := Nat → Option AFunc

/-- The box that a value points into, if any. -/
def AV.box? : AV → Option Nat
  | .ptr b _ | .itr b | .eptr b _ _ _ | .asl b _ | .mp b | .csl b _ _ _ => some b
  | _ => none
def follow (H : AHeap) : Nat → List Nat → Option Nat
  | b, [] => some b
  | b, o :: l => match hcells H b with
    | some cs => match (cs[o]?).bind AV.box? with
      | some b' => follow H b' l
      | none => none
    | none => none
def ways (s : Slots) (H : AHeap) : List (Nat × List Nat) → Option (List Nat)
  | [] => some []
  | x :: l => match (sget s x.1).bind AV.box? with
    | some b => match follow H b x.2, ways s H l with
      | some b', some r => some (b' :: r)
      | _, _ => none
    | none => none
/-- The pointer, slice or map through which an operation reads. -/
def addrOf : AOp → Option Opd
  | .load _ a | .lookup _ _ _ a _ _ | .lenL a | .lenM a | .idxS _ a _ | .sliceA _ _ a => some a
  | _ => none
/-- The box that it reads. -/
def rbox (s : Slots) (op : AOp) : Option Nat := ((addrOf op).bind (ev s)).bind AV.box?

/-- Does it write to boxes that are not its own? -/
def writes : AOp → Bool
  | .store .. | .append .. | .copy .. | .next .. | .mupd .. | .cut .. | .sliceL .. => true
  | .call _ _ _ pure => !pure
  | _ => false

def wanted (s : Slots) : Option (Nat × Bool) → Option Bool
  | none => some true
  | some (t, want) => match sget s t with
    | some (.lit (.bool b)) => some (b == want)
    | some (.tup []) => some false
    | _ => none

/-- The arrays behind these slots become public. -/
def publish (s : Slots) (H : AHeap) : List Nat → Option AHeap
  | [] => some H
  | t :: l => match sget s t with
    | some v => match frvA H v with
      | some r => publish s r.2 l
      | none => none
    | none => none

/-- No slice over an array of one's own that is not public yet. -/
def pubbed (H : AHeap) : AV → Bool
  | .asl b _ => match harr H b with
    | some (_, p, _) => p
    | none => false
  | _ => true
def pubbedA (H : AHeap) : AV → Bool
  | .agg cs => cs.all (pubbed H)
  | v => pubbed H v

def callOp (M : Mach) (c : Sc) (n0 : Nat) (s : Slots) (H : AHeap) (f : Opd) (args : List Opd) (own : List (List (Nat × Nat))) (pure : Bool) : Option (AV × AHeap) :=
  match ev s f, evs s args with
  | some f, some as =>
    if pure then
      if as.all (pubbedA H) then match frvAs H as with
        | none => none
        | some (as, _) => match M.call c (H.map AO.toRo) f as with
          | none => none
          | some (rs, _) => if bdL H.length rs then let x := inVs n0 H rs own; some (packed x.1, x.2) else none
      else none
    else match frvAs H as with
      | none => none
      | some (as, H) => match M.call c H f as with
        | none => none
        | some (rs, H') => let x := inVs n0 H' rs own; some (packed x.1, x.2)
  | _, _ => none

/-- What an operation does to the memory that it sees. -/
def core (M : Mach) (c : Sc) (n0 : Nat) (s : Slots) (H : AHeap) : AOp → Option (AV × AHeap)
  | .call f args own pure => callOp M c n0 s H f args own pure
  | op => prim c n0 s H op

/-- The boxes that an operation must not see. -/
def hsOf (n0 : Nat) (s : Slots) (H : AHeap) (o : AOper) : Option (List Nat) :=
  match ways s (hide H (o.hid.map (n0 + ·))) o.hida with
  | some bs => let hs := o.hid.map (n0 + ·) ++ bs; if !writes o.op || hs.all fun b => Nat.blt b H.length then some hs else none
  | none => none

def seenBy (s : Slots) (o : AOper) (hc : List (Option (List Nat))) : Bool :=
  match rbox s o.op with
  | none => true
  | some b => (hc.take o.inc).all fun e => match e with
    | none => true
    | some hs => hs.contains b

def oper (M : Mach) (c : Sc) (n0 : Nat) (s : Slots) (H : AHeap) (hc : List (Option (List Nat))) (o : AOper) : Option (Slots × AHeap × List (Option (List Nat))) :=
  match wanted s o.guard with
  | none => none
  | some false => some (sput s o.dst (.tup []), H, if writes o.op then none :: hc else hc)
  | some true => match hsOf n0 s H o, seenBy s o hc with
    | some hs, true => match core M c n0 s (hide H hs) o.op with
      | some r => if hs.isEmpty || Nat.ble H.length r.2.length then some (sput s o.dst r.1, unhide H r.2 hs, if writes o.op then some hs :: hc else hc) else none
      | none => none
    | _, _ => none

def opers (M : Mach) (c : Sc) (n0 : Nat) : List AOper → Slots → AHeap → List (Option (List Nat)) → Option (Slots × AHeap)
  | [], s, H, _ => some (s, H)
  | o :: l, s, H, hc => match oper M c n0 s H hc o with
    | none => none
    | some (s, H, hc) => opers M c n0 l s H hc

def codeStep (M : Mach) (st : St) : ACode → Option (Ex × St)
  | .skip => some (.normal, st)
  | .region _ nres pre ops live => match publish st.s st.H pre with
    | some H => match opers M st.c H.length ops st.s (H ++ List.replicate nres .dead) [] with
      | some r => some (.normal, { st with s := restrict r.1 live, H := r.2 })
      | none => none
    | none => none
  | .seq a b => match M.code a st with
    | some (.normal, st') => M.code b st'
    | r => r
  | .cond c a b => match ev st.s c with
    | some (.lit (.bool true)) => M.code a st
    | some (.lit (.bool false)) => M.code b st
    | _ => none
  | .block id a => match M.code a st with
    | some (.exit j, st') => if Nat.beq j id then some (.normal, st') else some (.exit j, st')
    | r => r
  | .loop tr live body =>
    match M.code body (if tr then { s := restrict st.s live, H := st.H, c := ⟨st.H.length, st.c.cur :: st.c.outer⟩ } else { st with s := restrict st.s live }) with
    | some (.normal, st') =>
      let s := restrict st'.s live
      if tr then (if bdAll st.H.length s then M.code (.loop tr live body) { s, H := st'.H.take st.H.length, c := st.c } else none)
      else M.code (.loop tr live body) { s, H := st'.H, c := st.c }
    | some (e, st') => some (e, { st' with c := st.c })
    | none => none
  | .rangeFunc f ps assign body => match ev st.s f with
    | some (.fn (.func i) fa fc) =>
      let l := st.H.length
      match M.call st.c (st.H ++ [.loop 0 st.s ps assign body false none]) (.fn (.func i) fa fc) [.fn (.yield l) [] []] with
      | some (_, H') => match hget H' l with
        | some (.loop _ _ _ _ _ false none) => some (.normal, { st with H := hset H' l .dead })
        | some (.loop _ _ _ _ _ false (some e)) => some (e, { st with H := hset H' l .dead })
        | _ => none
      | none => none
    | _ => none
  | .scope a => M.code a st
  | .exit id => some (.exit id, st)
  | .ret => some (.ret, st)

def callStep (T : Tab) (M : Mach) (c : Sc) (H : AHeap) (f : AV) (args : List AV) : Option (List AV × AHeap) :=
  match f with
  | .fn (.func i) first cap => match T i with
    | none => none
    | some af =>
      let as := first ++ args ++ cap
      if Nat.beq as.length af.nargs then
        match M.code af.body { s := argSlots 0 as, H, c := ⟨H.length, c.cur :: c.outer⟩ } with
        | some (.normal, st) | some (.ret, st) => match results st.s st.H af.results with
          | none => none
          | some rs => match outVs H.length st.H rs with
            | none => none
            | some (rs, H') => some (rs, trunc H.length rs H')
        | _ => none
      else none
  | .fn (.yield l) [] [] => match hget H l with
    | some (.loop _ s ps assign body false none) =>
      if Nat.beq ps.length args.length then
        match M.code assign { s := (ps.zip args).foldl (fun s x => sput s (some x.1) x.2) s, H, c := ⟨H.length, c.cur :: c.outer⟩ } with
        | some (.normal, st) => match hget st.H l with
          | some (.loop f1 s1 ps1 a1 b1 false none) => match M.code body { st with H := hset st.H l (.loop f1 s1 ps1 a1 b1 true none) } with
            | some (e, st') => match hget st'.H l with
              | some (.loop f2 s2 ps2 a2 b2 true none) =>
                some ([.b (match e with | .normal => true | _ => false)], trunc H.length [] (hset st'.H l (.loop f2 s2 ps2 a2 b2 false (match e with | .normal => none | e => some e))))
              | _ => none
            | none => none
          | _ => none
        | _ => none
      else none
    | _ => none
  | _ => none

def mach (T : Tab) : Nat → Mach
  | 0 => ⟨fun _ _ _ _ => none, fun _ _ => none⟩
  | n + 1 => ⟨fun c H f args => callStep T (mach T n) c H f args, fun c st => codeStep (mach T n) st c⟩

end Am
