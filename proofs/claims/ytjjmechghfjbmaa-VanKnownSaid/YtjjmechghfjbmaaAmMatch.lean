/- When an abstract operation stands for one of the program's. -/
import Derived.Test.YtjjmechghfjbmaaAmRel
set_option linter.unusedVariables false
set_option linter.unusedSimpArgs false
set_option linter.unnecessarySimpa false
namespace Am
open Go

def litEq (v w : Value) : Bool :=
  match v with
  | .int k n => (match w with | .int k' n' => decide (k = k') && decide (n = n') | _ => false)
  | .bool b => (match w with | .bool b' => b == b' | _ => false)
  | .string s => (match w with | .string s' => s.data.toList == s'.data.toList | _ => false)
  | .pointer a => (match w with | .pointer b => a.isNone && b.isNone | _ => false)
  | .nilFunc => (match w with | .nilFunc => true | _ => false)
  | .map a => (match w with | .map b => a.isNone && b.isNone | _ => false)
  | .nilIface => (match w with | .nilIface => true | _ => false)
  | _ => false
mutual
def matchV : AV → Value → Bool
  | .lit w, v => litEq v w
  | .nils _, v => (match v with | .slice a n c => a.isNone && n == 0 && c == 0 | _ => false)
  | .seq _ rows, v => rows.isEmpty && (match v with | .slice a n c => a.isNone && n == 0 && c == 0 | _ => false)
  | .agg l, v => (match v with | .agg cs => matchVs l cs.toList && cs.toList.all Value.oneCell' | _ => false)
  | .tup l, v => (match v with | .tuple cs => matchVs l cs.toList | _ => false)
  | _, _ => false
def matchVs : List AV → List Value → Bool
  | [], l => l.isEmpty
  | x :: m, l => (match l with | v :: l => matchV x v && matchVs m l | [] => false)
end

def matchOpd : Operand → Opd → Bool
  | .tmp t, .t i => t == i
  | .const v, .c x => matchV x v
  | .func f, .f i => f == i
  | _, _ => false
def matchOpds : List Operand → List Opd → Bool
  | [], [] => true
  | x :: l, y :: m => matchOpd x y && matchOpds l m
  | _, _ => false
def matchOpt : Option Operand → Option Opd → Bool
  | none, none => true
  | some x, some y => matchOpd x y
  | _, _ => false

def isAggB (P : Program) (t : TypeId) : Bool :=
  match P.underlying t with
  | some (.struct _) | some (.array _ _) => true
  | _ => false
def known (P : Program) (t : TypeId) : Bool := (P.info? t).isSome && (P.underlying t).isSome
/-- 'none': one cell; 'some k': an aggregate of k cells. -/
def sizeIs (P : Program) (t : TypeId) : Option Nat → Bool
  | none => known P t && !isAggB P t
  | some k => known P t && isAggB P t && P.cellsOf t == k
def sliceOf (P : Program) (t : TypeId) : Option TypeId :=
  match P.underlying t with
  | some (.slice e) => some e
  | _ => none
def zeroIs (P : Program) (t : TypeId) (zs : List AV) : Bool :=
  match (P.info? t).bind (·.zero) with
  | some z => matchVs zs z.cells.toList && P.cellsOf t == zs.length && z.cells.toList.all Value.oneCell'
  | none => false
def fieldAt? (P : Program) (t : TypeId) (f : Nat) : Option Field :=
  match P.underlying t with
  | some (.struct fs) => fs[f]?
  | _ => none

def kindOf (P : Program) (t : TypeId) : Option Nat :=
  match P.underlying t with
  | some (.int _) => some 0
  | some .bool => some 1
  | some .string => some 2
  | _ => none

def fieldKinds (P : Program) : Nat → List Field → List Nat → Bool
  | _, [], [] => true
  | i, f :: fs, k :: ks => f.offset == i && f.name != "_" && known P f.type && kindOf P f.type == some k && fieldKinds P (i + 1) fs ks
  | _, _, _ => false
/-- A struct or an array (one level) of cells of these kinds. -/
def flatEq (P : Program) (t : TypeId) (ks : List Nat) : Bool :=
  !P.eqGuardType P.depth t &&
  match P.underlying t with
  | some (.struct fs) => !P.stoodInHeld t && fieldKinds P 0 fs.toList ks
  | some (.array m e) => m == ks.length && P.cellsOf e == 1 && known P e && ks.all fun k => kindOf P e == some k
  | _ => false
/-- A key of a map: cells that are compared one by one. -/
def keyOk (P : Program) (t : TypeId) (ag : Bool) (ks : List Nat) : Bool :=
  if ag then flatEq P t ks else match ks with | [k] => kindOf P t == some k | _ => false

def ranksOf : AOp → List Nat
  | .nil _ r | .box _ _ r | .mkmap r | .mkslice _ _ _ _ _ r | .range _ r | .cut _ _ _ r => [r]
  | .alloc _ owns r => r :: owns.map fun x => x.2.1
  | .lits _ _ _ _ (some r) | .append _ _ _ _ (some r) _ => [r]
  | .call _ _ own _ => own.flatMap fun l => l.map (·.2)
  | _ => []

def partsS (P : Program) (fs : Array Field) : List (Nat × Operand) → List (Nat × Nat × Opd) → Bool
  | [], [] => true
  | x :: l, y :: m => (match fs[x.1]? with | some f => f.offset == y.1 && P.cellsOf f.type == y.2.1 && known P f.type | none => false) && matchOpd x.2 y.2.2 && partsS P fs l m
  | _, _ => false
def partsA (k : Nat) : List (Nat × Operand) → List (Nat × Nat × Opd) → Bool
  | [], [] => true
  | x :: l, y :: m => x.1 * k == y.1 && y.2.1 == k && matchOpd x.2 y.2.2 && partsA k l m
  | _, _ => false
def partsL (n : Nat) : List (Nat × Operand) → List (Nat × Opd) → Bool
  | [], [] => true
  | x :: l, y :: m => x.1 == y.1 && decide (x.1 < n) && matchOpd x.2 y.2 && partsL n l m
  | _, _ => false

def matchFn : Fn → Fn → Bool
  | .func a, .func b => a == b
  | _, _ => false

/-- Does an abstract operation stand for one of the program's? -/
def matchOp (P : Program) (o : Op) : AOp → Bool
  | .mv y => match o with
    | .move x | .assign x => matchOpd x y
    | .call { callee := .builtin .len, args, argTypes } => match y, args.toList, argTypes.toList with
      | .c (.lit (.int .i64 n)), [_], [t] => (match P.underlying t with | some (.array m _) => decide ((m : Int) = n) | _ => false)
      | _, _, _ => false
    | _ => false
  | .nil k _ => match o with
    | .move x | .assign x => (match x with | .const (.slice none 0 0) => true | _ => false) && decide (0 < k)
    | _ => false
  | .pick c' a' b' => match o with
    | .pick c a b => matchOpd c c' && matchOpd a a' && matchOpd b b'
    | _ => false
  | .alloc zs owns _ => match o with
    | .alloc e => zeroIs P e zs && (owns.all fun x => decide (0 < x.2.2) && (match zs[x.1]? with | some (.nils _) => true | _ => false)) && decide (0 < zs.length)
    | _ => false
  | .box n y _ => match o with
    | .box _ x => matchOpd x y && decide (0 < n)
    | _ => false
  | .build z ps' => match o with
    | .build e ps => zeroIs P e z &&
      match P.underlying e with
      | some (.struct fs) => (fs.toList.all fun f => known P f.type) && partsS P fs ps.toList ps'
      | some (.array _ e') => known P e' && partsA (P.cellsOf e') ps.toList ps'
      | _ => false
    | _ => false
  | .lits k z n' ps' _ | .xlits k z n' ps' => match o with
    | .buildSlice t n ps => match sliceOf P t with
      | some e => P.cellsOf e == k && zeroIs P e z && n == n' && decide (0 < k) && decide (n * k ≤ 2 ^ 24) && partsL n ps.toList ps'
      | none => false
    | _ => false
  | .load k y => match o with
    | .load t x => sizeIs P t k && matchOpd x y
    | _ => false
  | .store k a' v' => match o with
    | .store t a v => known P t && P.cellsOf t == k && decide (0 < k) && matchOpd a a' && matchOpd v v'
    | _ => false
  | .nilck y => match o with
    | .nilCheck x => matchOpd x y
    | _ => false
  | .bin op' x' y' => match o with
    | .binOp op _ x y _ => op == op' && matchOpd x x' && matchOpd y y'
    | _ => false
  | .beq neg x' y' => match o with
    | .binOp op t x y _ => op == (if neg then .neq else .eql) && (match P.underlying t with | some .bool => true | _ => false) && matchOpd x x' && matchOpd y y'
    | _ => false
  | .cmp neg ks x' y' => match o with
    | .binOp op t x y _ => op == (if neg then .neq else .eql) && flatEq P t ks && matchOpd x x' && matchOpd y y'
    | _ => false
  | .un op' y => match o with
    | .unOp op _ x => op == op' && matchOpd x y
    | _ => false
  | .conv k y => match o with
    | .convert src dst x => (P.underlying src).isSome && (match P.underlying dst with | some (.int k') => k == k' | _ => false) && matchOpd x y
    | _ => false
  | .idc y => match o with
    | .convert src dst x => (P.underlying src).isSome && (match P.underlying dst with | some .string => true | _ => false) && matchOpd x y
    | _ => false
  | .mkfn f' a' c' => match o with
    | .makeFunc f a c => matchFn f f' && matchOpds a.toList a' && matchOpds c.toList c'
    | _ => false
  | .mkmap _ => match o with
    | .makeMap _ none => true
    | _ => false
  | .mkslice k by_ z l' c' _ => match o with
    | .makeSlice t l c => match sliceOf P t with
      | some e => P.cellsOf e == k && P.bytesOf e == by_ && zeroIs P e z && decide (0 < k) && matchOpd l l' && matchOpd c c'
      | none => false
    | _ => false
  | .sliceS y lo' hi' => match o with
    | .slice t x lo hi none => (match P.underlying t with | some .string => true | _ => false) && matchOpd x y && matchOpt lo lo' && matchOpt hi hi'
    | _ => false
  | .sliceL k y lo' hi' => match o with
    | .slice t x lo hi none => (match sliceOf P t with | some e => P.cellsOf e == k && known P e && decide (0 < k) | none => false) && matchOpd x y && matchOpt lo lo' && matchOpt hi hi'
    | _ => false
  | .sliceQ k y lo' hi' => match o with
    | .slice t x lo hi none => (match sliceOf P t with | some e => P.cellsOf e == k && known P e && decide (0 < k) | none => false) && matchOpd x y && matchOpt lo lo' && matchOpt hi hi'
    | _ => false
  | .cut k y hi' _ => match o with
    | .slice t x none hi none => (match sliceOf P t with | some e => P.cellsOf e == k && known P e && decide (0 < k) | none => false) && matchOpd x y && matchOpt hi hi'
    | _ => false
  | .sliceA k n y => match o with
    | .slice t x none none none => (match P.underlying t with | some (.array m e) => m == n && P.cellsOf e == k && known P e && decide (0 < k) | _ => false) && matchOpd x y
    | _ => false
  | .fieldAddr off y => match o with
    | .fieldAddr t x f => (match fieldAt? P t f with | some fl => fl.offset == off && known P fl.type && decide (0 < P.cellsOf fl.type) | none => false) && matchOpd x y
    | _ => false
  | .field k off y => match o with
    | .field t x f => (match fieldAt? P t f with | some fl => fl.offset == off && sizeIs P fl.type k | none => false) && matchOpd x y
    | _ => false
  | .idxS k x' i' => match o with
    | .indexAddr t x i => (match sliceOf P t with | some e => P.cellsOf e == k && known P e && decide (0 < k) | none => false) && matchOpd x x' && matchOpd i i'
    | _ => false
  | .idxA k n x' i' => match o with
    | .indexAddr t x i => (match P.underlying t with | some (.array m e) => m == n && P.cellsOf e == k && known P e && decide (0 < k) | _ => false) && matchOpd x x' && matchOpd i i'
    | _ => false
  | .idxStr x' i' => match o with
    | .index t x i => (match P.underlying t with | some .string => true | _ => false) && matchOpd x x' && matchOpd i i'
    | _ => false
  | .idxAgg k sz n x' i' => match o with
    | .index t x i => (match P.underlying t with | some (.array m e) => m == n && P.cellsOf e == sz && sizeIs P e k | _ => false) && matchOpd x x' && matchOpd i i'
    | _ => false
  | .lookup z ag ks m' i' ok' => match o with
    | .lookup t m i ok => (match P.underlying t with | some (.map kt et) => keyOk P kt ag ks && (match (P.info? et).bind (·.zero) with | some zv => matchV z zv | none => false) | _ => false) && ok == ok' && matchOpd m m' && matchOpd i i'
    | _ => false
  | .mupd ag ks m' k' v' => match o with
    | .mapUpdate t m k v => (match P.underlying t with | some (.map kt _) => keyOk P kt ag ks | _ => false) && matchOpd m m' && matchOpd k k' && matchOpd v v'
    | _ => false
  | .range y _ => match o with
    | .range t x => (match P.underlying t with | some .string => true | _ => false) && matchOpd x y
    | _ => false
  | .next y => match o with
    | .next x str => str && matchOpd x y
    | _ => false
  | .extract y j => match o with
    | .extract x i => i == j && matchOpd x y
    | _ => false
  | .lenS y => match o with
    | .call { callee := .builtin .len, args, argTypes } => match args.toList, argTypes.toList with
      | [x], [t] => (match P.underlying t with | some .string => true | _ => false) && matchOpd x y
      | _, _ => false
    | _ => false
  | .lenL y => match o with
    | .call { callee := .builtin .len, args, argTypes } => match args.toList, argTypes.toList with
      | [x], [t] => (match P.underlying t with | some (.slice _) => true | _ => false) && matchOpd x y
      | _, _ => false
    | _ => false
  | .lenM y => match o with
    | .call { callee := .builtin .len, args, argTypes } => match args.toList, argTypes.toList with
      | [x], [t] => (match P.underlying t with | some (.map _ _) => true | _ => false) && matchOpd x y
      | _, _ => false
    | _ => false
  | .mm mx ys => match o with
    | .call { callee := .builtin .max, args, .. } => mx && matchOpds args.toList ys
    | .call { callee := .builtin .min, args, .. } => !mx && matchOpds args.toList ys
    | _ => false
  | .append k by_ d x _ _ => match o with
    | .call { callee := .builtin .append, args, argTypes } => match args.toList, argTypes.toList with
      | [d', x'], [t, u] => (match sliceOf P t, sliceOf P u with | some e, some _ => P.cellsOf e == k && P.bytesOf e == by_ && decide (0 < k) && (match (P.info? e).bind (·.zero) with | some z => z.cells.size == k | none => false) | _, _ => false) && matchOpd d' d && matchOpd x' x
      | _, _ => false
    | _ => false
  | .copy k d x => match o with
    | .call { callee := .builtin .copy, args, argTypes } => match args.toList, argTypes.toList with
      | [d', x'], [t, _] => (match sliceOf P t with | some e => P.cellsOf e == k && known P e && decide (0 < k) | none => false) && matchOpd d' d && matchOpd x' x
      | _, _ => false
    | _ => false
  | .call f' args' _ _ => match o with
    | .call { callee := .value f, args, .. } => matchOpd f f' && matchOpds args.toList args'
    | _ => false
end Am
