/- The evaluator again, in small pieces: for the kernel. The first half is printed out of AmBase by fast.py. -/
import Derived.Test.YtjjmechghfjbmaaAmQuick0
set_option linter.unusedVariables false
set_option linter.unusedSimpArgs false
set_option linter.unnecessarySimpa false
namespace Am
open Go
noncomputable section

def pMv (x : Opd) (c : Sc) (n0 : Nat) (s : Slots) (H : AHeap) : Option (AV × AHeap) := (evR s x).map (·, H)

def pPick (c : Opd) (a : Opd) (b : Opd) (_c : Sc) (n0 : Nat) (s : Slots) (H : AHeap) : Option (AV × AHeap) := match evR s c with
    | some (.lit (.bool true)) => (evR s a).map (·, H)
    | some (.lit (.bool false)) => (evR s b).map (·, H)
    | _ => none

def pNil (k : Nat) (r : Nat) (c : Sc) (n0 : Nat) (s : Slots) (H : AHeap) : Option (AV × AHeap) := some (.asl (n0 + r) 0, hsetR H (n0 + r) (.arr k false []))

def pAlloc (zs : List AV) (owns : List (Nat × Nat × Nat)) (r : Nat) (c : Sc) (n0 : Nat) (s : Slots) (H : AHeap) : Option (AV × AHeap) :=
    let (zs, H) := setOwns n0 owns zs H
    some (.ptr (n0 + r) 0, hsetR H (n0 + r) (.cells zs))

def pBox (n : Nat) (x : Opd) (r : Nat) (c : Sc) (n0 : Nat) (s : Slots) (H : AHeap) : Option (AV × AHeap) := match evR s x with
    | some v => if Nat.beq v.cellsOf.length n then some (.ptr (n0 + r) 0, hsetR H (n0 + r) (.cells v.cellsOf)) else none
    | none => none

def pBuild (z : List AV) (parts : List (Nat × Nat × Opd)) (c : Sc) (n0 : Nat) (s : Slots) (H : AHeap) : Option (AV × AHeap) := (evParts s parts).bind fun ps => (fillC z ps).map fun cs => (.agg cs, H)

def pLits (k : Nat) (z : List AV) (n : Nat) (parts : List (Nat × Opd)) (own : Option Nat) (c : Sc) (n0 : Nat) (s : Slots) (H : AHeap) : Option (AV × AHeap) := (evPartsR s parts).bind fun ps => (fillR k (List.replicate n z) ps).bind fun rows =>
      if frzR rows then match own with
        | none => some (.seq k rows, H)
        | some r => some (.asl (n0 + r) n, hsetR H (n0 + r) (.arr k false rows))
      else none

def pXlits (k : Nat) (z : List AV) (n : Nat) (parts : List (Nat × Opd)) (c : Sc) (n0 : Nat) (s : Slots) (H : AHeap) : Option (AV × AHeap) := (evPartsR s parts).bind fun ps => (fillR k (List.replicate n z) ps).map fun rows => (.xseq k rows, H)

def pLoad0 (a : Opd) (c : Sc) (n0 : Nat) (s : Slots) (H : AHeap) : Option (AV × AHeap) := match evR s a with
    | some p => match ptrCellsR H p with
      | some (x :: _) => some (x, H)
      | _ => none
    | none => none

def pLoadK (k : Nat) (a : Opd) (c : Sc) (n0 : Nat) (s : Slots) (H : AHeap) : Option (AV × AHeap) := match evR s a with
    | some p => match ptrCellsR H p with
      | some cs => if Nat.ble k cs.length then some (.agg (cs.take k), H) else none
      | none => none
    | none => none

def pLoad (k : Option Nat) (a : Opd) : Sc → Nat → Slots → AHeap → Option (AV × AHeap) := match k with
  | none => pLoad0 a
  | some k => pLoadK k a

def pStore (k : Nat) (a : Opd) (v : Opd) (c : Sc) (n0 : Nat) (s : Slots) (H : AHeap) : Option (AV × AHeap) := match evR s a, evR s v with
    | some (.ptr b o), some v => match hcellsWR H b with
      | some cs => if Nat.beq v.cellsOf.length k && Nat.ble (o + k) cs.length && c.okL b v.cellsOf then
          some (.tup [], hsetR H b (.cells (splice cs o v.cellsOf))) else none
      | none => none
    | some (.eptr b n i o), some v => match frvL H v.cellsOf with
      | none => none
      | some (cs, H') => match harrWR H' b with
        | some (kk, false, rows) => match rows[i]? with
          | some r => if Nat.beq (lenR rows) n && Nat.beq cs.length k && Nat.ble (o + k) r.length && cs.all AV.frz then
              some (.tup [], hsetR H' b (.arr kk false (rows.set i (splice r o cs)))) else none
          | none => none
        | _ => none
    | _, _ => none

def pNilck (x : Opd) (c : Sc) (n0 : Nat) (s : Slots) (H : AHeap) : Option (AV × AHeap) := match evR s x with
    | some (.ptr b o) => some (.ptr b o, H)
    | some (.eptr b n i o) => some (.eptr b n i o, H)
    | some (.cptr cs) => some (.cptr cs, H)
    | some (.fn (.func f) a b) => some (.fn (.func f) a b, H)
    | _ => none

def pBin (op : BinOp) (x : Opd) (y : Opd) (c : Sc) (n0 : Nat) (s : Slots) (H : AHeap) : Option (AV × AHeap) := match evR s x, evR s y with
    | some x, some y => (binR op x y).map (·, H)
    | _, _ => none

def pBeq (neg : Bool) (x : Opd) (y : Opd) (c : Sc) (n0 : Nat) (s : Slots) (H : AHeap) : Option (AV × AHeap) := match evR s x, evR s y with
    | some (.lit (.bool a)), some (.lit (.bool b)) => some (.lit (.bool (if neg then !(a == b) else a == b)), H)
    | _, _ => none

def pCmp (neg : Bool) (ks : List Nat) (x : Opd) (y : Opd) (c : Sc) (n0 : Nat) (s : Slots) (H : AHeap) : Option (AV × AHeap) := match evR s x, evR s y with
    | some (.agg a), some (.agg b) => if kinds ks a && kinds ks b then match eqLits a b with
        | some t => some (.lit (.bool (if neg then !t else t)), H)
        | none => none
      else none
    | _, _ => none

def pUn (op : UnOp) (x : Opd) (c : Sc) (n0 : Nat) (s : Slots) (H : AHeap) : Option (AV × AHeap) := match evR s x with
    | some x => (unV op x).map (·, H)
    | none => none

def pConv (k : IntKind) (x : Opd) (c : Sc) (n0 : Nat) (s : Slots) (H : AHeap) : Option (AV × AHeap) := match evR s x with
    | some (.lit (.int _ n)) => some (.lit (.int k (k.wrap n)), H)
    | _ => none

def pIdc (x : Opd) (c : Sc) (n0 : Nat) (s : Slots) (H : AHeap) : Option (AV × AHeap) := match evR s x with
    | some (.lit (.string b)) => some (.lit (.string b), H)
    | _ => none

def pMkfn (f : Fn) (first : List Opd) (cap : List Opd) (c : Sc) (n0 : Nat) (s : Slots) (H : AHeap) : Option (AV × AHeap) := match evsR s first, evsR s cap with
    | some a, some b => some (.fn f a b, H)
    | _, _ => none

def pMkmap (r : Nat) (c : Sc) (n0 : Nat) (s : Slots) (H : AHeap) : Option (AV × AHeap) := some (.mp (n0 + r), hsetR H (n0 + r) (.map []))

def pMkslice (k : Nat) (bytes : Nat) (z : List AV) (l : Opd) (cp : Opd) (r : Nat) (c : Sc) (n0 : Nat) (s : Slots) (H : AHeap) : Option (AV × AHeap) := match evR s l, evR s cp with
    | some (.lit (.int .i64 l)), some (.lit (.int .i64 c)) => if l = c ∧ 0 ≤ l ∧ l * bytes ≤ 1099511627776 ∧ l ≤ 1099511627776 then
        some (.asl (n0 + r) l.toNat, hsetR H (n0 + r) (.arr k false (List.replicate l.toNat z))) else none
    | _, _ => none

def pSliceS (x : Opd) (lo : Option Opd) (hi : Option Opd) (c : Sc) (n0 : Nat) (s : Slots) (H : AHeap) : Option (AV × AHeap) := match evR s x with
    | some (.lit (.string b)) => match bnd s 0 lo, bnd s b.size hi with
      | some l, some h => if 0 ≤ l ∧ l ≤ h ∧ h ≤ b.size then some (.lit (.string (b.extract l.toNat h.toNat)), H) else none
      | _, _ => none
    | _ => none

def pSliceL (kk : Nat) (x : Opd) (lo : Option Opd) (hi : Option Opd) (c : Sc) (n0 : Nat) (s : Slots) (H : AHeap) : Option (AV × AHeap) := match evR s x with
    | some v => match frvA H v with
      | some (.seq k rows, H') => match bnd s 0 lo, bnd s (lenR rows) hi with
        | some l, some h => if 0 ≤ l ∧ l ≤ h ∧ h ≤ (lenR rows) ∧ k = kk then some (.seq k ((rows.take h.toNat).drop l.toNat), H') else none
        | _, _ => none
      | _ => none
    | none => none

def pSliceQ (kk : Nat) (x : Opd) (lo : Option Opd) (hi : Option Opd) (c : Sc) (n0 : Nat) (s : Slots) (H : AHeap) : Option (AV × AHeap) := match evR s x with
    | some (.seq k rows) => match bnd s 0 lo, bnd s (lenR rows) hi with
        | some l, some h => if 0 ≤ l ∧ l ≤ h ∧ h ≤ (lenR rows) ∧ k = kk then some (.seq k ((rows.take h.toNat).drop l.toNat), H) else none
        | _, _ => none
    | _ => none

def pSliceA (k : Nat) (n : Nat) (x : Opd) (c : Sc) (n0 : Nat) (s : Slots) (H : AHeap) : Option (AV × AHeap) := match evR s x with
    | some (.ptr b o) => match hcellsR H b with
      | some cs => if Nat.ble (o + n * k) cs.length then some (.csl b o k n, H) else none
      | none => none
    | _ => none

def pFieldAddr (off : Nat) (x : Opd) (c : Sc) (n0 : Nat) (s : Slots) (H : AHeap) : Option (AV × AHeap) := match evR s x with
    | some (.ptr b o) => some (.ptr b (o + off), H)
    | some (.eptr b n i o) => some (.eptr b n i (o + off), H)
    | some (.cptr cs) => some (.cptr (cs.drop off), H)
    | _ => none

def pField (k : Option Nat) (off : Nat) (x : Opd) (c : Sc) (n0 : Nat) (s : Slots) (H : AHeap) : Option (AV × AHeap) := match evR s x with
    | some (.agg cs) => match k with
      | none => (cs[off]?).map (·, H)
      | some k => if Nat.ble (off + k) cs.length then some (.agg ((cs.drop off).take k), H) else none
    | _ => none

def pIdxS (k : Nat) (x : Opd) (i : Opd) (c : Sc) (n0 : Nat) (s : Slots) (H : AHeap) : Option (AV × AHeap) := match evR s x, evR s i with
    | some (.seq k' rows), some (.lit (.int _ i)) => if 0 ≤ i ∧ k' = k then match getR rows i.toNat with
        | some r => some (.cptr r, H)
        | none => none
      else none
    | some (.xseq k' rows), some (.lit (.int _ i)) => if 0 ≤ i ∧ k' = k then match getR rows i.toNat with
        | some r => some (.cptr r, H)
        | none => none
      else none
    | some (.asl b n), some (.lit (.int _ i)) => match harrR H b with
      | some (k', _, rows) => if 0 ≤ i ∧ i < n ∧ k' = k ∧ (lenR rows) = n then some (.eptr b n i.toNat 0, H) else none
      | none => none
    | _, _ => none

def pIdxA (k : Nat) (n : Nat) (x : Opd) (i : Opd) (c : Sc) (n0 : Nat) (s : Slots) (H : AHeap) : Option (AV × AHeap) := match evR s x, evR s i with
    | some (.ptr b o), some (.lit (.int _ i)) => if 0 ≤ i ∧ i < n then some (.ptr b (o + i.toNat * k), H) else none
    | some (.eptr b m j o), some (.lit (.int _ i)) => if 0 ≤ i ∧ i < n then some (.eptr b m j (o + i.toNat * k), H) else none
    | some (.cptr cs), some (.lit (.int _ i)) => if 0 ≤ i ∧ i < n then some (.cptr (cs.drop (i.toNat * k)), H) else none
    | _, _ => none

def pIdxStr (x : Opd) (i : Opd) (c : Sc) (n0 : Nat) (s : Slots) (H : AHeap) : Option (AV × AHeap) := match evR s x, evR s i with
    | some (.lit (.string b)), some (.lit (.int _ i)) => if 0 ≤ i then (b[i.toNat]?).map fun c => (.lit (.int .u8 c.toNat), H) else none
    | _, _ => none

def pIdxAgg (k : Option Nat) (sz : Nat) (n : Nat) (x : Opd) (i : Opd) (c : Sc) (n0 : Nat) (s : Slots) (H : AHeap) : Option (AV × AHeap) := match evR s x, evR s i with
    | some (.agg cs), some (.lit (.int _ i)) => if 0 ≤ i ∧ i < n then match k with
        | none => (cs[i.toNat * sz]?).map (·, H)
        | some k => if Nat.ble (i.toNat * sz + k) cs.length then some (.agg ((cs.drop (i.toNat * sz)).take k), H) else none
      else none
    | _, _ => none

def pLookup (z : AV) (ag : Bool) (ks : List Nat) (x : Opd) (i : Opd) (ok : Bool) (c : Sc) (n0 : Nat) (s : Slots) (H : AHeap) : Option (AV × AHeap) := match evR s x, evR s i with
    | some m, some key => match (match m with | .mp b => hmap H b | .lit (.map none) => some [] | _ => none), keyCells ag key with
      | some es, some cs => if kinds ks cs then match findKey ag ks cs es 0 with
          | some (some (_, v)) => some (if ok then .tup [v, .lit (.bool true)] else v, H)
          | some none => some (if ok then .tup [z, .lit (.bool false)] else z, H)
          | none => none
        else none
      | _, _ => none
    | _, _ => none

def pMupd (ag : Bool) (ks : List Nat) (m : Opd) (k : Opd) (v : Opd) (c : Sc) (n0 : Nat) (s : Slots) (H : AHeap) : Option (AV × AHeap) := match evR s m, evR s k, evR s v with
    | some (.mp b), some key, some v => match hmapW H b, keyCells ag key with
      | some es, some cs => if kinds ks cs && v.cellsOf.all AV.frz && !v.cellsOf.isEmpty then match findKey ag ks cs es 0 with
          | some (some (i, _)) => some (.tup [], hsetR H b (.map (es.set i (key, v))))
          | some none => some (.tup [], hsetR H b (.map (es ++ [(key, v)])))
          | none => none
        else none
      | _, _ => none
    | _, _, _ => none

def pRange (x : Opd) (r : Nat) (c : Sc) (n0 : Nat) (s : Slots) (H : AHeap) : Option (AV × AHeap) := match evR s x with
    | some (.lit (.string b)) => some (.itr (n0 + r), hsetR H (n0 + r) (.iter b 0))
    | _ => none

def pNext (x : Opd) (c : Sc) (n0 : Nat) (s : Slots) (H : AHeap) : Option (AV × AHeap) := match evR s x with
    | some (.itr b) => match hget H b with
      | some (.iter t pos) => if pos < t.size then
          some (.tup [.lit (.bool true), .lit (.int .i64 pos), .lit (.int .i32 (Utf8.decode t pos).1)], hsetR H b (.iter t (pos + (Utf8.decode t pos).2)))
        else some (.tup [.lit (.bool false)], H)
      | _ => none
    | _ => none

def pExtract (x : Opd) (i : Nat) (c : Sc) (n0 : Nat) (s : Slots) (H : AHeap) : Option (AV × AHeap) := match evR s x with
    | some (.tup cs) => (getR cs i).map (·, H)
    | _ => none

def pLenS (x : Opd) (c : Sc) (n0 : Nat) (s : Slots) (H : AHeap) : Option (AV × AHeap) := match evR s x with
    | some (.lit (.string b)) => some (.lit (.int .i64 b.size), H)
    | _ => none

def pLenL (x : Opd) (c : Sc) (n0 : Nat) (s : Slots) (H : AHeap) : Option (AV × AHeap) := match evR s x with
    | some (.nils _) => some (.lit (.int .i64 (0 : Nat)), H)
    | some (.seq _ rows) => some (.lit (.int .i64 (lenR rows)), H)
    | some (.xseq _ rows) => some (.lit (.int .i64 (lenR rows)), H)
    | some (.csl _ _ _ n) => some (.lit (.int .i64 n), H)
    | some (.asl b n) => match harrR H b with
      | some (_, _, rows) => if (lenR rows) = n then some (.lit (.int .i64 n), H) else none
      | none => none
    | _ => none

def pLenM (x : Opd) (c : Sc) (n0 : Nat) (s : Slots) (H : AHeap) : Option (AV × AHeap) := match evR s x with
    | some (.mp b) => match hmap H b with
      | some es => some (.lit (.int .i64 es.length), H)
      | none => none
    | some (.lit (.map none)) => some (.lit (.int .i64 (0 : Nat)), H)
    | _ => none

def pMm (mx : Bool) (xs : List Opd) (c : Sc) (n0 : Nat) (s : Slots) (H : AHeap) : Option (AV × AHeap) := match evsR s xs with
    | some (x :: l) => (mmV mx x l).map (·, H)
    | _ => none

def pAppend (k : Nat) (bytes : Nat) (d : Opd) (x : Opd) (r : Option Nat) (fz : Bool) (c : Sc) (n0 : Nat) (s : Slots) (H : AHeap) : Option (AV × AHeap) := match evR s d, evR s x with
    | some d, some x => match rowsOf H x, kOf H x with
      | some new, some k' => if Nat.beq k k' && frzR new then match d with
          | .nils _ => if new.length * bytes ≤ 1099511627776 ∧ new.length ≤ 1099511627776 then match fz, r with
              | true, _ => some (.seq k new, H)
              | false, some r => some (.asl (n0 + r) new.length, hsetR H (n0 + r) (.arr k false new))
              | false, none => none
            else none
          | .asl b n => match harrWR H b with
            | some (kk, p, rows) => if Nat.beq (lenR rows) n && Nat.beq kk k && (n + new.length) * bytes ≤ 1099511627776 && n + new.length ≤ 1099511627776 then
                if fz then some (.seq k (rows ++ new), hsetR H b .dead)
                else some (.asl b (n + new.length), hsetR H b (.arr k p (rows ++ new))) else none
            | none => none
          | _ => none
        else none
      | _, _ => none
    | _, _ => none

def pCopy (k : Nat) (d : Opd) (x : Opd) (c : Sc) (n0 : Nat) (s : Slots) (H : AHeap) : Option (AV × AHeap) := match evR s d, evR s x with
    | some (.asl b n), some x => match harrWR H b, rowsOf H x, kOf H x with
      | some (kk, false, rows), some src, some k' => if Nat.beq (lenR rows) n && Nat.beq kk k && Nat.beq k k' && frzR src then
          some (.lit (.int .i64 (min src.length n : Nat)), hsetR H b (.arr kk false (src.take (min src.length n) ++ rows.drop (min src.length n)))) else none
      | _, _, _ => none
    | _, _ => none

def pCut (_x0 : Nat) (x : Opd) (hi : Option Opd) (r : Nat) (c : Sc) (n0 : Nat) (s : Slots) (H : AHeap) : Option (AV × AHeap) := match evR s x with
    | some (.asl b n) => match harrWR H b, bnd s n hi with
      | some (k, false, rows), some h => if Nat.beq (lenR rows) n && (0 ≤ h ∧ h ≤ n : Bool) then
          some (.asl (n0 + r) h.toNat, hset (hsetR H b .dead) (n0 + r) (.arr k false (rows.take h.toNat))) else none
      | _, _ => none
    | _ => none

def pNo (_ : Sc) (_ : Nat) (_ : Slots) (_ : AHeap) : Option (AV × AHeap) := none

def primF : AOp → Sc → Nat → Slots → AHeap → Option (AV × AHeap)
  | .mv x0 => pMv x0
  | .pick x0 x1 x2 => pPick x0 x1 x2
  | .nil x0 x1 => pNil x0 x1
  | .alloc x0 x1 x2 => pAlloc x0 x1 x2
  | .box x0 x1 x2 => pBox x0 x1 x2
  | .build x0 x1 => pBuild x0 x1
  | .lits x0 x1 x2 x3 x4 => pLits x0 x1 x2 x3 x4
  | .xlits x0 x1 x2 x3 => pXlits x0 x1 x2 x3
  | .load x0 x1 => pLoad x0 x1
  | .store x0 x1 x2 => pStore x0 x1 x2
  | .nilck x0 => pNilck x0
  | .bin x0 x1 x2 => pBin x0 x1 x2
  | .beq x0 x1 x2 => pBeq x0 x1 x2
  | .cmp x0 x1 x2 x3 => pCmp x0 x1 x2 x3
  | .un x0 x1 => pUn x0 x1
  | .conv x0 x1 => pConv x0 x1
  | .idc x0 => pIdc x0
  | .mkfn x0 x1 x2 => pMkfn x0 x1 x2
  | .mkmap x0 => pMkmap x0
  | .mkslice x0 x1 x2 x3 x4 x5 => pMkslice x0 x1 x2 x3 x4 x5
  | .sliceS x0 x1 x2 => pSliceS x0 x1 x2
  | .sliceL x0 x1 x2 x3 => pSliceL x0 x1 x2 x3
  | .sliceQ x0 x1 x2 x3 => pSliceQ x0 x1 x2 x3
  | .sliceA x0 x1 x2 => pSliceA x0 x1 x2
  | .fieldAddr x0 x1 => pFieldAddr x0 x1
  | .field x0 x1 x2 => pField x0 x1 x2
  | .idxS x0 x1 x2 => pIdxS x0 x1 x2
  | .idxA x0 x1 x2 x3 => pIdxA x0 x1 x2 x3
  | .idxStr x0 x1 => pIdxStr x0 x1
  | .idxAgg x0 x1 x2 x3 x4 => pIdxAgg x0 x1 x2 x3 x4
  | .lookup x0 x1 x2 x3 x4 x5 => pLookup x0 x1 x2 x3 x4 x5
  | .mupd x0 x1 x2 x3 x4 => pMupd x0 x1 x2 x3 x4
  | .range x0 x1 => pRange x0 x1
  | .next x0 => pNext x0
  | .extract x0 x1 => pExtract x0 x1
  | .lenS x0 => pLenS x0
  | .lenL x0 => pLenL x0
  | .lenM x0 => pLenM x0
  | .mm x0 x1 => pMm x0 x1
  | .append x0 x1 x2 x3 x4 x5 => pAppend x0 x1 x2 x3 x4 x5
  | .copy x0 x1 x2 => pCopy x0 x1 x2
  | .cut x0 x1 x2 x3 => pCut x0 x1 x2 x3
  | .call _ _ _ _ => pNo

theorem primF_eq (op : AOp) (c : Sc) (n0 : Nat) (s : Slots) (H : AHeap) : primF op c n0 s H = prim c n0 s H op := by
  cases op with
  | mv x0 => simp only [primF, pMv, prim, evR_eq, evsR_eq, harrR_eq, harrWR_eq, hcellsR_eq, hcellsWR_eq, ptrCellsR_eq, hsetR_eq, binR_eq, lenR_eq, getR_eq]; try rfl
  | pick x0 x1 x2 => simp only [primF, pPick, prim, evR_eq, evsR_eq, harrR_eq, harrWR_eq, hcellsR_eq, hcellsWR_eq, ptrCellsR_eq, hsetR_eq, binR_eq, lenR_eq, getR_eq]; try rfl
  | nil x0 x1 => simp only [primF, pNil, prim, evR_eq, evsR_eq, harrR_eq, harrWR_eq, hcellsR_eq, hcellsWR_eq, ptrCellsR_eq, hsetR_eq, binR_eq, lenR_eq, getR_eq]; try rfl
  | alloc x0 x1 x2 => simp only [primF, pAlloc, prim, evR_eq, evsR_eq, harrR_eq, harrWR_eq, hcellsR_eq, hcellsWR_eq, ptrCellsR_eq, hsetR_eq, binR_eq, lenR_eq, getR_eq]; try rfl
  | box x0 x1 x2 => simp only [primF, pBox, prim, evR_eq, evsR_eq, harrR_eq, harrWR_eq, hcellsR_eq, hcellsWR_eq, ptrCellsR_eq, hsetR_eq, binR_eq, lenR_eq, getR_eq]; try rfl
  | build x0 x1 => simp only [primF, pBuild, prim, evR_eq, evsR_eq, harrR_eq, harrWR_eq, hcellsR_eq, hcellsWR_eq, ptrCellsR_eq, hsetR_eq, binR_eq, lenR_eq, getR_eq]; try rfl
  | lits x0 x1 x2 x3 x4 => simp only [primF, pLits, prim, evR_eq, evsR_eq, harrR_eq, harrWR_eq, hcellsR_eq, hcellsWR_eq, ptrCellsR_eq, hsetR_eq, binR_eq, lenR_eq, getR_eq]; try rfl
  | xlits x0 x1 x2 x3 => simp only [primF, pXlits, prim, evR_eq, evsR_eq, harrR_eq, harrWR_eq, hcellsR_eq, hcellsWR_eq, ptrCellsR_eq, hsetR_eq, binR_eq, lenR_eq, getR_eq]; try rfl
  | load k a =>
    cases k with
    | none => simp only [primF, pLoad, pLoad0, prim, evR_eq, evsR_eq, harrR_eq, harrWR_eq, hcellsR_eq, hcellsWR_eq, ptrCellsR_eq, hsetR_eq, binR_eq, lenR_eq, getR_eq]; try rfl
    | some k => simp only [primF, pLoad, pLoadK, prim, evR_eq, evsR_eq, harrR_eq, harrWR_eq, hcellsR_eq, hcellsWR_eq, ptrCellsR_eq, hsetR_eq, binR_eq, lenR_eq, getR_eq]; try rfl
  | store x0 x1 x2 => simp only [primF, pStore, prim, evR_eq, evsR_eq, harrR_eq, harrWR_eq, hcellsR_eq, hcellsWR_eq, ptrCellsR_eq, hsetR_eq, binR_eq, lenR_eq, getR_eq]; try rfl
  | nilck x0 => simp only [primF, pNilck, prim, evR_eq, evsR_eq, harrR_eq, harrWR_eq, hcellsR_eq, hcellsWR_eq, ptrCellsR_eq, hsetR_eq, binR_eq, lenR_eq, getR_eq]; try rfl
  | bin x0 x1 x2 => simp only [primF, pBin, prim, evR_eq, evsR_eq, harrR_eq, harrWR_eq, hcellsR_eq, hcellsWR_eq, ptrCellsR_eq, hsetR_eq, binR_eq, lenR_eq, getR_eq]; try rfl
  | beq x0 x1 x2 => simp only [primF, pBeq, prim, evR_eq, evsR_eq, harrR_eq, harrWR_eq, hcellsR_eq, hcellsWR_eq, ptrCellsR_eq, hsetR_eq, binR_eq, lenR_eq, getR_eq]; try rfl
  | cmp x0 x1 x2 x3 => simp only [primF, pCmp, prim, evR_eq, evsR_eq, harrR_eq, harrWR_eq, hcellsR_eq, hcellsWR_eq, ptrCellsR_eq, hsetR_eq, binR_eq, lenR_eq, getR_eq]; try rfl
  | un x0 x1 => simp only [primF, pUn, prim, evR_eq, evsR_eq, harrR_eq, harrWR_eq, hcellsR_eq, hcellsWR_eq, ptrCellsR_eq, hsetR_eq, binR_eq, lenR_eq, getR_eq]; try rfl
  | conv x0 x1 => simp only [primF, pConv, prim, evR_eq, evsR_eq, harrR_eq, harrWR_eq, hcellsR_eq, hcellsWR_eq, ptrCellsR_eq, hsetR_eq, binR_eq, lenR_eq, getR_eq]; try rfl
  | idc x0 => simp only [primF, pIdc, prim, evR_eq, evsR_eq, harrR_eq, harrWR_eq, hcellsR_eq, hcellsWR_eq, ptrCellsR_eq, hsetR_eq, binR_eq, lenR_eq, getR_eq]; try rfl
  | mkfn x0 x1 x2 => simp only [primF, pMkfn, prim, evR_eq, evsR_eq, harrR_eq, harrWR_eq, hcellsR_eq, hcellsWR_eq, ptrCellsR_eq, hsetR_eq, binR_eq, lenR_eq, getR_eq]; try rfl
  | mkmap x0 => simp only [primF, pMkmap, prim, evR_eq, evsR_eq, harrR_eq, harrWR_eq, hcellsR_eq, hcellsWR_eq, ptrCellsR_eq, hsetR_eq, binR_eq, lenR_eq, getR_eq]; try rfl
  | mkslice x0 x1 x2 x3 x4 x5 => simp only [primF, pMkslice, prim, evR_eq, evsR_eq, harrR_eq, harrWR_eq, hcellsR_eq, hcellsWR_eq, ptrCellsR_eq, hsetR_eq, binR_eq, lenR_eq, getR_eq]; try rfl
  | sliceS x0 x1 x2 => simp only [primF, pSliceS, prim, evR_eq, evsR_eq, harrR_eq, harrWR_eq, hcellsR_eq, hcellsWR_eq, ptrCellsR_eq, hsetR_eq, binR_eq, lenR_eq, getR_eq]; try rfl
  | sliceL x0 x1 x2 x3 => simp only [primF, pSliceL, prim, evR_eq, evsR_eq, harrR_eq, harrWR_eq, hcellsR_eq, hcellsWR_eq, ptrCellsR_eq, hsetR_eq, binR_eq, lenR_eq, getR_eq]; try rfl
  | sliceQ x0 x1 x2 x3 => simp only [primF, pSliceQ, prim, evR_eq, evsR_eq, harrR_eq, harrWR_eq, hcellsR_eq, hcellsWR_eq, ptrCellsR_eq, hsetR_eq, binR_eq, lenR_eq, getR_eq]; try rfl
  | sliceA x0 x1 x2 => simp only [primF, pSliceA, prim, evR_eq, evsR_eq, harrR_eq, harrWR_eq, hcellsR_eq, hcellsWR_eq, ptrCellsR_eq, hsetR_eq, binR_eq, lenR_eq, getR_eq]; try rfl
  | fieldAddr x0 x1 => simp only [primF, pFieldAddr, prim, evR_eq, evsR_eq, harrR_eq, harrWR_eq, hcellsR_eq, hcellsWR_eq, ptrCellsR_eq, hsetR_eq, binR_eq, lenR_eq, getR_eq]; try rfl
  | field x0 x1 x2 => simp only [primF, pField, prim, evR_eq, evsR_eq, harrR_eq, harrWR_eq, hcellsR_eq, hcellsWR_eq, ptrCellsR_eq, hsetR_eq, binR_eq, lenR_eq, getR_eq]; try rfl
  | idxS x0 x1 x2 => simp only [primF, pIdxS, prim, evR_eq, evsR_eq, harrR_eq, harrWR_eq, hcellsR_eq, hcellsWR_eq, ptrCellsR_eq, hsetR_eq, binR_eq, lenR_eq, getR_eq]; try rfl
  | idxA x0 x1 x2 x3 => simp only [primF, pIdxA, prim, evR_eq, evsR_eq, harrR_eq, harrWR_eq, hcellsR_eq, hcellsWR_eq, ptrCellsR_eq, hsetR_eq, binR_eq, lenR_eq, getR_eq]; try rfl
  | idxStr x0 x1 => simp only [primF, pIdxStr, prim, evR_eq, evsR_eq, harrR_eq, harrWR_eq, hcellsR_eq, hcellsWR_eq, ptrCellsR_eq, hsetR_eq, binR_eq, lenR_eq, getR_eq]; try rfl
  | idxAgg x0 x1 x2 x3 x4 => simp only [primF, pIdxAgg, prim, evR_eq, evsR_eq, harrR_eq, harrWR_eq, hcellsR_eq, hcellsWR_eq, ptrCellsR_eq, hsetR_eq, binR_eq, lenR_eq, getR_eq]; try rfl
  | lookup x0 x1 x2 x3 x4 x5 => simp only [primF, pLookup, prim, evR_eq, evsR_eq, harrR_eq, harrWR_eq, hcellsR_eq, hcellsWR_eq, ptrCellsR_eq, hsetR_eq, binR_eq, lenR_eq, getR_eq]; try rfl
  | mupd x0 x1 x2 x3 x4 => simp only [primF, pMupd, prim, evR_eq, evsR_eq, harrR_eq, harrWR_eq, hcellsR_eq, hcellsWR_eq, ptrCellsR_eq, hsetR_eq, binR_eq, lenR_eq, getR_eq]; try rfl
  | range x0 x1 => simp only [primF, pRange, prim, evR_eq, evsR_eq, harrR_eq, harrWR_eq, hcellsR_eq, hcellsWR_eq, ptrCellsR_eq, hsetR_eq, binR_eq, lenR_eq, getR_eq]; try rfl
  | next x0 => simp only [primF, pNext, prim, evR_eq, evsR_eq, harrR_eq, harrWR_eq, hcellsR_eq, hcellsWR_eq, ptrCellsR_eq, hsetR_eq, binR_eq, lenR_eq, getR_eq]; try rfl
  | extract x0 x1 => simp only [primF, pExtract, prim, evR_eq, evsR_eq, harrR_eq, harrWR_eq, hcellsR_eq, hcellsWR_eq, ptrCellsR_eq, hsetR_eq, binR_eq, lenR_eq, getR_eq]; try rfl
  | lenS x0 => simp only [primF, pLenS, prim, evR_eq, evsR_eq, harrR_eq, harrWR_eq, hcellsR_eq, hcellsWR_eq, ptrCellsR_eq, hsetR_eq, binR_eq, lenR_eq, getR_eq]; try rfl
  | lenL x0 => simp only [primF, pLenL, prim, evR_eq, evsR_eq, harrR_eq, harrWR_eq, hcellsR_eq, hcellsWR_eq, ptrCellsR_eq, hsetR_eq, binR_eq, lenR_eq, getR_eq]; try rfl
  | lenM x0 => simp only [primF, pLenM, prim, evR_eq, evsR_eq, harrR_eq, harrWR_eq, hcellsR_eq, hcellsWR_eq, ptrCellsR_eq, hsetR_eq, binR_eq, lenR_eq, getR_eq]; try rfl
  | mm x0 x1 => simp only [primF, pMm, prim, evR_eq, evsR_eq, harrR_eq, harrWR_eq, hcellsR_eq, hcellsWR_eq, ptrCellsR_eq, hsetR_eq, binR_eq, lenR_eq, getR_eq]; try rfl
  | append x0 x1 x2 x3 x4 x5 => simp only [primF, pAppend, prim, evR_eq, evsR_eq, harrR_eq, harrWR_eq, hcellsR_eq, hcellsWR_eq, ptrCellsR_eq, hsetR_eq, binR_eq, lenR_eq, getR_eq]; try rfl
  | copy x0 x1 x2 => simp only [primF, pCopy, prim, evR_eq, evsR_eq, harrR_eq, harrWR_eq, hcellsR_eq, hcellsWR_eq, ptrCellsR_eq, hsetR_eq, binR_eq, lenR_eq, getR_eq]; try rfl
  | cut x0 x1 x2 x3 => simp only [primF, pCut, prim, evR_eq, evsR_eq, harrR_eq, harrWR_eq, hcellsR_eq, hcellsWR_eq, ptrCellsR_eq, hsetR_eq, binR_eq, lenR_eq, getR_eq]; try rfl
  | call f as own p => rfl

/-! ### the second half, by hand -/
def callOpF (f : Opd) (args : List Opd) (own : List (List (Nat × Nat))) (pure : Bool) (M : Mach) (c : Sc) (n0 : Nat) (s : Slots) (H : AHeap) : Option (AV × AHeap) := callOp M c n0 s H f args own pure

def coreF : AOp → Mach → Sc → Nat → Slots → AHeap → Option (AV × AHeap)
  | .call f args own pure => callOpF f args own pure
  | op => fun _ => primF op
theorem coreF_eq (M : Mach) (op : AOp) (c : Sc) (n0 : Nat) (s : Slots) (H : AHeap) : coreF op M c n0 s H = core M c n0 s H op := by
  cases op with
  | call => rfl
  | _ => simp only [coreF, core]; exact primF_eq _ c n0 s H

def finF (dst : Option Nat) (w : Bool) (s : Slots) (hc : List (Option (List Nat))) : Option (AV × AHeap) → Option (Slots × AHeap × List (Option (List Nat)))
  | some r => some (sput s dst r.1, r.2, bif w then some [] :: hc else hc)
  | none => none

def operG (o : AOper) (M : Mach) (c : Sc) (n0 : Nat) (s : Slots) (H : AHeap) (hc : List (Option (List Nat))) : Option (Slots × AHeap × List (Option (List Nat))) :=
  oper M c n0 s H hc o
def operP (dst : Option Nat) (op : AOp) (M : Mach) (c : Sc) (n0 : Nat) (s : Slots) (H : AHeap) (hc : List (Option (List Nat))) : Option (Slots × AHeap × List (Option (List Nat))) :=
  finF dst (writes op) s hc (coreF op M c n0 s H)

/-- A plain operation goes its own way. -/
def operF : AOper → Mach → Sc → Nat → Slots → AHeap → List (Option (List Nat)) → Option (Slots × AHeap × List (Option (List Nat)))
  | ⟨dst, op, none, [], [], 0, _⟩ => operP dst op
  | o => operG o

theorem operF_eq (o : AOper) (M : Mach) (c : Sc) (n0 : Nat) (s : Slots) (H : AHeap) (hc : List (Option (List Nat))) : operF o M c n0 s H hc = oper M c n0 s H hc o := by
  unfold operF
  split
  · next dst op src =>
    have h1 : hsOf n0 s H { dst, op, src } = some [] := by simp [hsOf, ways]
    have h2 : seenBy s { dst, op, src } hc = true := by simp [seenBy]; split <;> rfl
    simp only [oper, wanted, h1, h2, operP, coreF_eq, hide]
    cases core M c n0 s H op with
    | none => rfl
    | some r => cases writes op <;> simp [finF, unhide]
  · rfl

def opersF : List AOper → Mach → Sc → Nat → Slots → AHeap → List (Option (List Nat)) → Option (Slots × AHeap)
  | [] => fun _ _ _ s H _ => some (s, H)
  | o :: l => fun M c n0 s H hc => match operF o M c n0 s H hc with
    | none => none
    | some r => opersF l M c n0 r.1 r.2.1 r.2.2
theorem opersF_eq : ∀ (l : List AOper) (M : Mach) (c : Sc) (n0 : Nat) (s : Slots) (H : AHeap) (hc : List (Option (List Nat))), opersF l M c n0 s H hc = opers M c n0 l s H hc
  | [], _, _, _, _, _, _ => rfl
  | o :: l, M, c, n0, s, H, hc => by
    simp only [opersF, opers, operF_eq]
    cases oper M c n0 s H hc o with
    | none => rfl
    | some r => exact opersF_eq l M c n0 _ _ _

def kRegion (nres : Nat) (pre : List Nat) (ops : List AOper) (live : List Nat) (M : Mach) (st : St) : Option (Ex × St) :=
  match publish st.s st.H pre with
  | some H => match opersF ops M st.c H.length st.s (H ++ List.replicate nres .dead) [] with
    | some r => some (.normal, { st with s := restrict r.1 live, H := r.2 })
    | none => none
  | none => none
def kSeq (a b : ACode) (M : Mach) (st : St) : Option (Ex × St) :=
  match M.code a st with
  | some (.normal, st') => M.code b st'
  | r => r
def kCond (c : Opd) (a b : ACode) (M : Mach) (st : St) : Option (Ex × St) :=
  match ev st.s c with
  | some (.lit (.bool true)) => M.code a st
  | some (.lit (.bool false)) => M.code b st
  | _ => none
def kBlock (id : Nat) (a : ACode) (M : Mach) (st : St) : Option (Ex × St) :=
  match M.code a st with
  | some (.exit j, st') => if Nat.beq j id then some (.normal, st') else some (.exit j, st')
  | r => r
def kLoopA (live : List Nat) (body : ACode) (M : Mach) (st : St) : Option (Ex × St) :=
  match M.code body { st with s := restrict st.s live } with
  | some (.normal, st') => M.code (.loop false live body) { s := restrict st'.s live, H := st'.H, c := st.c }
  | some (e, st') => some (e, { st' with c := st.c })
  | none => none
def kLoopT (live : List Nat) (body : ACode) (M : Mach) (st : St) : Option (Ex × St) :=
  match M.code body { s := restrict st.s live, H := st.H, c := ⟨st.H.length, st.c.cur :: st.c.outer⟩ } with
  | some (.normal, st') =>
    let s := restrict st'.s live
    if bdAll st.H.length s then M.code (.loop true live body) { s, H := st'.H.take st.H.length, c := st.c } else none
  | some (e, st') => some (e, { st' with c := st.c })
  | none => none
def kRange (f : Opd) (ps : List Nat) (assign body : ACode) (M : Mach) (st : St) : Option (Ex × St) :=
  match ev st.s f with
  | some (.fn (.func i) fa fc) =>
    let l := st.H.length
    match M.call st.c (st.H ++ [.loop 0 st.s ps assign body false none]) (.fn (.func i) fa fc) [.fn (.yield l) [] []] with
    | some (_, H') => match hget H' l with
      | some (.loop _ _ _ _ _ false none) => some (.normal, { st with H := hset H' l .dead })
      | some (.loop _ _ _ _ _ false (some e)) => some (e, { st with H := hset H' l .dead })
      | _ => none
    | none => none
  | _ => none

def codeF : ACode → Mach → St → Option (Ex × St)
  | .skip => fun _ st => some (.normal, st)
  | .region _ nres pre ops live => kRegion nres pre ops live
  | .seq a b => kSeq a b
  | .cond c a b => kCond c a b
  | .block id a => kBlock id a
  | .loop true live a => kLoopT live a
  | .loop false live a => kLoopA live a
  | .rangeFunc f ps a b => kRange f ps a b
  | .scope a => fun M st => M.code a st
  | .exit id => fun _ st => some (.exit id, st)
  | .ret => fun _ st => some (.ret, st)
theorem codeF_eq (ac : ACode) (M : Mach) (st : St) : codeF ac M st = codeStep M st ac := by
  cases ac with
  | loop tr live a =>
    cases tr with
    | true =>
      simp only [codeF, kLoopT, codeStep, if_true]
      rfl
    | false =>
      simp only [codeF, kLoopA, codeStep, Bool.false_eq_true, if_false]
      rfl
  | region d nres pre ops live =>
    simp only [codeF, kRegion, codeStep, opersF_eq]
    rfl
  | _ => rfl

def outF (B : Nat) (rs : List ARes) : Option (Ex × St) → Option (List AV × AHeap)
  | some (.normal, st) | some (.ret, st) => match results st.s st.H rs with
    | none => none
    | some rs => match outVs B st.H rs with
      | none => none
      | some (rs, H') => some (rs, trunc B rs H')
  | _ => none
def callFun (M : Mach) (c : Sc) (H : AHeap) (as : List AV) (af : AFunc) : Option (List AV × AHeap) :=
  bif Nat.beq as.length af.nargs then outF H.length af.results (M.code af.body { s := argSlots 0 as, H, c := ⟨H.length, c.cur :: c.outer⟩ }) else none
def callGen (T : Tab) (M : Mach) (c : Sc) (H : AHeap) (f : AV) (args : List AV) : Option (List AV × AHeap) := callStep T M c H f args
def callF (T : Tab) (M : Mach) (c : Sc) (H : AHeap) (f : AV) (args : List AV) : Option (List AV × AHeap) :=
  match f with
  | .fn (.func i) first cap => match T i with
    | none => none
    | some af => callFun M c H (first ++ args ++ cap) af
  | f => callGen T M c H f args
theorem callF_eq (T : Tab) (M : Mach) (c : Sc) (H : AHeap) (f : AV) (args : List AV) : callF T M c H f args = callStep T M c H f args := by
  unfold callF
  split
  · next i first cap =>
    simp only [callStep]
    cases T i with
    | none => rfl
    | some af =>
      simp only [callFun]
      cases Nat.beq (first ++ args ++ cap).length af.nargs with
      | false => rfl
      | true =>
        simp only [cond_true, if_true]
        cases M.code af.body { s := argSlots 0 (first ++ args ++ cap), H, c := ⟨H.length, c.cur :: c.outer⟩ } with
        | none => rfl
        | some r =>
          obtain ⟨e, st⟩ := r
          cases e <;> rfl
  · rfl

def machF (T : Tab) : Nat → Mach
  | 0 => ⟨fun _ _ _ _ => none, fun _ _ => none⟩
  | n + 1 => ⟨fun c H f args => callF T (machF T n) c H f args, fun ac st => codeF ac (machF T n) st⟩
theorem machF_eq (T : Tab) : ∀ n, machF T n = mach T n
  | 0 => rfl
  | n + 1 => by
    simp only [machF, mach, machF_eq T n]
    congr 1
    · funext c H f args; exact callF_eq T _ c H f args
    · funext ac st; exact codeF_eq ac _ st

end
end Am
