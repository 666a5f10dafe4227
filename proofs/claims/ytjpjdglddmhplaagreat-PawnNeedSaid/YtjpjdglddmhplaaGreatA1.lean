/- Texts that the claim stands on, one behind another. -/
import GoSem.Step
import Derived.Calls
import Derived.Laws.AppendOwn
import Derived.Laws.StructEq
import Derived.Laws.Rows
import Derived.Laws.CopyRow
import Derived.ChangeKeysEq
import Derived.Laws.MakeOwn
set_option linter.unusedVariables false
set_option linter.unusedSimpArgs false
set_option linter.unnecessarySimpa false
theorem Am.Z.{u} {α:Sort u} {a:α}:a=a:=rfl
open Array renaming append_assoc→Z3r,ext'→Z2v,getElem?_append→Z38,getElem?_eq_some_iff→Z0d,getElem?_map→Z28,getElem?_toList→Z0j,length_toList→Z0i,range→Z4j
open Bool renaming and_eq_true→Zc,false_eq_true→Zj,not_true→Z0y,or_eq_true_iff→Z4y
open Int renaming le_refl→Z02
open List renaming all_cons→ZS,all_eq_true→Zq,append_assoc→ZB,append_nil→ZY,drop_drop→Z19,drop_eq_getElem_cons→Z2q,eq_nil_of_length_eq_zero→Z15,forIn_cons→Z5i,getD→Z4b,getElem?_append→ZP,getElem?_drop→ZV,getElem?_eq_getElem→Zm,getElem?_eq_some_iff→Ze,getElem?_of_mem→Z1l,getElem?_set→ZJ,getElem?_take_of_lt→ZO,getElem?_toArray→Z0r,head?_drop→Z4c,headD_eq_head?_getD→Z2t,length_append→Zo,length_cons→ZT,length_drop→Z2i,length_map→Zi,length_set→Z0t,map_cons→Zt,mem_cons_self→Zy,mem_cons→Zu,mem_map→ZK,mem_of_getElem?→Zw,mem_or_eq_of_mem_set→Z2r,mem_replicate→Z1i,nodup_cons→Z1c,range'_succ→Z5c,range'→Z5z,range→Z04,replicate→Zv,set_set→Z3e,size_toArray→Z57
open Nat renaming add_assoc→Z03,add_comm→Z2u,add_mul_mod_self_right→Z3u,add_mul→Z21,add_sub_cancel_left→Z27,add_zero→Z1e,beq→ZC,ble→ZH,blt→ZU,eq_of_beq_eq_true→Zk,le_of_ble_eq_true→Zp,le_refl→Zn,le_trans→Z01,lt_of_lt_of_le→Z0m,mod_eq_of_lt→Z33,mul_comm→Z1g,mul_le_mul_right→ZQ,mul_one→Z60,zero_add→Z1d
open Option renaming getD_some→ZW,isSome_iff_exists→Z0q,map_eq_some_iff→Zz,map_some→Zb
open Option.some renaming injEq→Za
open Prod.mk renaming injEq→Zf
section
namespace Am
open Go
inductive AV where
 | lit (v:Value)
 | nils (k:Nat)
 | seq (k:Nat) (rows:List (List AV))
 | xseq (k:Nat) (rows:List (List AV))
 | ptr (b o:Nat)
 | itr (b:Nat)
 | eptr (b n i o:Nat)
 | cptr (cs:List AV)
 | asl (b n:Nat)
 | csl (b o k n:Nat)
 | mp (b:Nat)
 | fn (f:Fn) (first cap:List AV)
 | agg (cs:List AV)
 | tup (cs:List AV)
 | fresh (k:Nat) (rows:List (List AV))
 | undef
 deriving Inhabited
mutual
def AV.bd (N:Nat):AV→Bool
 | .lit _|.nils _|.seq _ _|.fresh _ _|.undef=>true
 | .xseq _ rows=>bdR N rows
 | .ptr b _|.itr b|.eptr b _ _ _|.asl b _|.csl b _ _ _|.mp b=>ZU b N
 | .cptr cs=>bdL N cs
 | .fn (.yield l) a c=>ZU l N&&bdL N a&&bdL N c
 | .fn _ a c=>bdL N a&&bdL N c
 | .agg cs|.tup cs=>bdL N cs
def bdL (N:Nat):List AV→Bool
 | []=>true
 | x::l=>x.bd N&&bdL N l
def bdR (N:Nat):List (List AV)→Bool
 | []=>true
 | x::l=>bdL N x&&bdR N l
end
def AV.frz:AV→Bool
 | .lit _|.nils _|.seq _ _=>true
 | _=>false
def AV.plain:AV→Bool
 | .lit _|.nils _|.seq _ _|.undef=>true
 | _=>false
def AV.cellsOf:AV→List AV
 | .agg cs=>cs
 | .tup _|.undef|.fresh _ _=>[]
 | v=>[v]
abbrev AV.i (n:Int):AV:=.lit (.int .i64 n)
abbrev AV.b (t:Bool):AV:=.lit (.bool t)
abbrev AV.s (x:ByteArray):AV:=.lit (.string x)
inductive Opd where
 | t (i:Nat)
 | c (v:AV)
 | f (i:Nat)
 deriving Inhabited
abbrev C2:=List (Nat×AV)
def sget:C2→Nat→Option AV
 | [],_=>none
 | (u,v)::s,t=>bif ZC u t then some v else sget s t
theorem N9 (t:Nat):sget [] t=none:=rfl
theorem K8 (x:Nat×AV) (s:C2) (t:Nat):sget (x::s) t=bif ZC x.1 t then some x.2 else sget s t:=rfl
def sput (s:C2):Option Nat→AV→C2
 | none,_=>s
 | some t,v=>(t,v)::s
def restrict (s:C2):List Nat→C2
 | []=>[]
 | t::l=>match sget s t with
  | some v=>(t,v)::restrict s l
  | none=>restrict s l
def ev (s:C2):Opd→Option AV
 | .t i=>sget s i
 | .c v=>some v
 | .f i=>some (.fn (.func i) [] [])
def evs (s:C2):List Opd→Option (List AV)
 | []=>some []
 | x::l=>(ev s x).bind fun v=>(evs s l).map (v :: ·)
inductive AOp where
 | mv (x:Opd)
 | mvz (x:Opd)
 | pick (c a b:Opd)
 | nil (k r:Nat)
 | alloc (zs:List AV) (owns:List (Nat×Nat×Nat)) (r:Nat)
 | box (n:Nat) (x:Opd) (r:Nat)
 | build (z:List AV) (parts:List (Nat×Nat×Opd))
 | lits (k:Nat) (z:List AV) (n:Nat) (parts:List (Nat×Opd)) (own:Option Nat)
 | xlits (k:Nat) (z:List AV) (n:Nat) (parts:List (Nat×Opd))
 | load (k:Option Nat) (a:Opd)
 | store (k:Nat) (a v:Opd)
 | storeN (a:Opd) (k r:Nat)
 | nilck (x:Opd)
 | bin (op:BinOp) (x y:Opd)
 | beq (neg:Bool) (x y:Opd)
 | cmp (neg:Bool) (ks:List Nat) (x y:Opd)
 | un (op:UnOp) (x:Opd)
 | conv (k:IntKind) (x:Opd)
 | idc (x:Opd)
 | mkfn (f:Fn) (first cap:List Opd)
 | mkmap (r:Nat)
 | mkslice (k bytes:Nat) (z:List AV) (len cap:Opd) (r:Nat)
 | sliceS (x:Opd) (lo hi:Option Opd)
 | sliceL (k:Nat) (x:Opd) (lo hi:Option Opd)
 | sliceQ (k:Nat) (x:Opd) (lo hi:Option Opd)
 | sliceA (k n:Nat) (x:Opd) (hi:Option Opd)
 | nilq (neg:Bool) (x:Opd)
 | fieldAddr (off:Nat) (x:Opd)
 | field (k:Option Nat) (off:Nat) (x:Opd)
 | idxS (k:Nat) (x i:Opd)
 | idxA (k n:Nat) (x i:Opd)
 | idxStr (x i:Opd)
 | idxAgg (k:Option Nat) (sz n:Nat) (x i:Opd)
 | lookup (z:AV) (ag:Bool) (ks:List Nat) (x i:Opd) (ok:Bool)
 | mupd (ag:Bool) (ks:List Nat) (m k v:Opd)
 | range (x:Opd) (r:Nat)
 | rangeM (x:Opd) (r:Nat)
 | next (x:Opd)
 | entry (x:Opd)
 | extract (x:Opd) (i:Nat)
 | lenS (x:Opd)
 | lenL (x:Opd)
 | lenM (x:Opd)
 | mm (max:Bool) (xs:List Opd)
 | append (k bytes:Nat) (s x:Opd) (r:Option Nat) (fz:Bool)
 | copy (k:Nat) (d s:Opd)
 | cut (k:Nat) (x:Opd) (hi:Option Opd) (r:Nat)
 | sub (k:Nat) (x:Opd) (lo hi:Option Opd)
 | clear (k:Nat) (z:List AV) (x:Opd)
 | call (f:Opd) (args:List Opd) (own:List (List (Nat×Nat))) (pure:Bool)
 deriving Inhabited
structure AOper where
 dst:Option Nat
 op:AOp
 guard:Option (Nat×Bool):=none
 hid:List Nat:=[]
 hida:List (Nat×List Nat):=[]
 inc:Nat:=0
 src:Nat:=0
 deriving Inhabited
def q (i d:Nat) (op:AOp):AOper:={ dst:=some d,op,src:=i }
def r (i:Nat) (op:AOp):AOper:={ dst:=none,op,src:=i }
instance (n:Nat):OfNat Opd n:=⟨.t n⟩
def Opd.i (n:Int):Opd:=.c (.lit (.int .i64 n))
def Opd.b (t:Bool):Opd:=.c (.lit (.bool t))
def M (i d:Nat) (x:Opd):AOper:=q i d (.mv x)
def L (i d:Nat) (x:Opd):AOper:=q i d (.load none x)
def LK (i d k:Nat) (x:Opd):AOper:=q i d (.load (some k) x)
def FA (i d o:Nat) (x:Opd):AOper:=q i d (.fieldAddr o x)
def B (i d:Nat) (op:BinOp) (x y:Opd):AOper:=q i d (.bin op x y)
def EX (i d:Nat) (x:Opd) (j:Nat):AOper:=q i d (.extract x j)
def IX (i d k:Nat) (x y:Opd):AOper:=q i d (.idxS k x y)
def NK (i d:Nat) (x:Opd):AOper:=q i d (.nilck x)
def LE (i d:Nat) (x:Opd):AOper:=q i d (.lenL x)
def ST (i k:Nat) (a v:Opd):AOper:=r i (.store k a v)
def CL (i d f:Nat) (aq:List Opd):AOper:=q i d (.call (.f f) aq [] false)
def CP (i d f:Nat) (aq:List Opd):AOper:=q i d (.call (.f f) aq [] true)
def G (i d t:Nat) (w:Bool) (op:AOp):AOper:=⟨some d,op,some (t,w),[],[],0,i⟩
inductive ACode where
 | skip
 | region (draw:Bool) (nres:Nat) (pre:List Nat) (ops:List AOper) (live:List Nat)
 | seq (a b:ACode)
 | cond (c:Opd) (thn els:ACode)
 | block (id:Nat) (body:ACode)
 | loop (tr:Bool) (live:List Nat) (body:ACode)
 | rangeFunc (f:Opd) (params live:List Nat) (assign body:ACode)
 | loopM (x:Opd) (nx ok:Nat) (live0 live liveX:List Nat) (rest:ACode)
 | scope (body:ACode)
 | exit (id:Nat)
 | ret
 deriving Inhabited
def ACode.g (n:Nat) (ops:List AOper) (live:List Nat):ACode:=.region false n [] ops live
def ACode.gd (n:Nat) (ops:List AOper) (live:List Nat):ACode:=.region true n [] ops live
def ACode.s (n:Nat) (ops:List AOper) (live:List Nat) (b:ACode):ACode:=.seq (.region false n [] ops live) b
def ACode.sd (n:Nat) (ops:List AOper) (live:List Nat) (b:ACode):ACode:=.seq (.region true n [] ops live) b
inductive Ex where
 | normal
 | exit (id:Nat)
 | ret
 deriving Inhabited
inductive AO where
 | dead
 | cells (cs:List AV)
 | arr (k:Nat) (pub:Bool) (rows:List (List AV))
 | map (es:List (AV×AV))
 | iter (s:ByteArray) (pos:Nat)
 | loop (f:Nat) (s:C2) (params:List Nat) (assign body:ACode) (busy:Bool) (pend:Option Ex)
 | stk (k:Nat) (rows:List (List AV)) (anc:List Nat)
 | mit (m n:Nat) (seen:List Nat)
 | ro (o:AO)
 deriving Inhabited
abbrev A2:=List AO
def AO.rd:AO→AO
 | .ro o=>o
 | o=>o
def AO.isW:AO→Bool
 | .dead|.ro _=>false
 | _=>true
def AO.toRo:AO→AO
 | .dead=>.dead
 | .ro o=>.ro o
 | o=>.ro o
def hget (H:A2) (b:Nat):Option AO:=H[b]?
def hset (H:A2) (b:Nat) (o:AO):A2:=H.set b o
def hcells (H:A2) (b:Nat):Option (List AV) :=
 match hget H b with
 | some (.cells cs)|some (.ro (.cells cs))=>some cs
 | _=>none
def X2 (H:A2) (b:Nat):Option (List AV) :=
 match hget H b with
 | some (.cells cs)=>some cs
 | _=>none
def harr (H:A2) (b:Nat):Option (Nat×Bool×List (List AV)) :=
 match hget H b with
 | some (.arr k p rows)|some (.ro (.arr k p rows))=>some (k,p,rows)
 | _=>none
def A05 (H:A2) (b:Nat):Option (Nat×Bool×List (List AV)) :=
 match hget H b with
 | some (.arr k p rows)=>some (k,p,rows)
 | _=>none
def hstk (H:A2) (b:Nat):Option (Nat×List (List AV)×List Nat) :=
 match hget H b with
 | some (.stk k rows p)|some (.ro (.stk k rows p))=>some (k,rows,p)
 | _=>none
def B53 (H:A2) (b:Nat):Option (Nat×List (List AV)×List Nat) :=
 match hget H b with
 | some (.stk k rows p)=>some (k,rows,p)
 | _=>none
def AO.grew (b:Nat):AO→Bool
 | .stk _ _ p|.ro (.stk _ _ p)=>p.contains b
 | _=>false
def AO.anc:AO→List Nat
 | .stk _ _ p|.ro (.stk _ _ p)=>p
 | _=>[]
def AO.isV:AO→Bool
 | .dead|.ro _|.stk _ _ _=>false
 | _=>true
def AO.isS:AO→Bool
 | .stk _ _ _|.ro (.stk _ _ _)=>true
 | _=>false
def hmap (H:A2) (b:Nat):Option (List (AV×AV)) :=
 match hget H b with
 | some (.map es)|some (.ro (.map es))=>some es
 | _=>none
def B18 (H:A2) (b:Nat):Option (List (AV×AV)) :=
 match hget H b with
 | some (.map es)=>some es
 | _=>none
def B1m (H:A2) (b:Nat):Option (AV×AV) :=
 match hget H b with
 | some (.mit m n seen)=>match hmap H m with
  | some es=>if es.length=n then (seen.getLast?).bind fun i=>es[i]? else none
  | none=>none
 | _=>none
def hide (H:A2):List Nat→A2
 | []=>H
 | b::l=>hset (hide H l) b .dead
def unhide (G H:A2):List Nat→A2
 | []=>H
 | b::l=>match hget G b with
  | some o=>hset (unhide G H l) b o
  | none=>unhide G H l
structure Sc where
 cur:Nat
 outer:List Nat
 deriving Inhabited
def Sc.ok (c:Sc) (b:Nat) (v:AV):Bool :=
 ZH c.cur b||v.plain||(ZH c.cur b||v.bd c.cur)&&c.outer.all fun B=>ZH B b||v.bd B
def Sc.okL (c:Sc) (b:Nat):List AV→Bool
 | []=>true
 | v::l=>c.ok b v&&Sc.okL c b l
def splice (cs:List AV) (o:Nat) (new:List AV):List AV:=cs.take o++new++cs.drop (o+new.length)
def frv (H:A2):AV→Option (AV×A2)
 | .asl b n=>match harr H b with
  | some (k,true,rows)=>if ZC rows.length n then some (.seq k rows,H) else none
  | some (k,false,rows)=>match A05 H b with
   | some _=>if ZC rows.length n then some (.seq k rows,hset H b (.arr k true rows)) else none
   | none=>none
  | none=>none
 | v=>some (v,H)
def A8e (H:A2):AV→Option (Nat×List (List AV))
 | .seq k rows=>some (k,rows)
 | .asl b n=>match harr H b with
  | some (k,true,rows)=>if ZC rows.length n then some (k,rows) else none
  | _=>none
 | _=>none
def Z4 (H:A2):List AV→Option (List AV×A2)
 | []=>some ([],H)
 | v::l=>match frv H v with
  | none=>none
  | some (v',H')=>match Z4 H' l with
   | none=>none
   | some (l',H'')=>some (v'::l',H'')
def U4 (H:A2):AV→Option (AV×A2)
 | .agg cs=>(Z4 H cs).map fun r=>(.agg r.1,r.2)
 | .nils k=>some (.seq k [],H)
 | v=>frv H v
def S6 (H:A2):List AV→Option (List AV×A2)
 | []=>some ([],H)
 | v::l=>match U4 H v with
  | none=>none
  | some (v',H')=>match S6 H' l with
   | none=>none
   | some (l',H'')=>some (v'::l',H'')
def B1x (op:BinOp) (k:IntKind) (a b:Int):Option Value :=
 match op with
 | .add=>some (.int k (k.wrap (a+b)))
 | .sub=>some (.int k (k.wrap (a-b)))
 | .mul=>some (.int k (k.wrap (a*b)))
 | .quo=>if b=0 then none else some (.int k (k.wrap (a.tdiv b)))
 | .rem=>if b=0 then none else some (.int k (a.tmod b))
 | .and=>some (.int k (k.wrap (BitVec.ofInt k.bits a &&& BitVec.ofInt k.bits b).toNat))
 | .or=>some (.int k (k.wrap (BitVec.ofInt k.bits a ||| BitVec.ofInt k.bits b).toNat))
 | .xor=>some (.int k (k.wrap (BitVec.ofInt k.bits a ^^^ BitVec.ofInt k.bits b).toNat))
 | .andNot=>some (.int k (k.wrap (BitVec.ofInt k.bits a &&& ~~~ BitVec.ofInt k.bits b).toNat))
 | .eql=>some (.bool (a==b))
 | .neq=>some (.bool (a != b))
 | .lss=>some (.bool (a<b))
 | .leq=>some (.bool (a≤b))
 | .gtr=>some (.bool (a>b))
 | .geq=>some (.bool (a≥b))
 | _=>none
def C05 (op:BinOp) (x y:ByteArray):Option Value :=
 match op with
 | .add=>if x.size+y.size≤1099511627776 then some (.string (x++y)) else none
 | .eql=>some (.bool (x.data.toList==y.data.toList))
 | .neq=>some (.bool !(x.data.toList==y.data.toList))
 | .lss=>some (.bool (Op.bytesLess x.data.toList y.data.toList))
 | .leq=>some (.bool (Op.bytesLess x.data.toList y.data.toList||x.data.toList==y.data.toList))
 | .gtr=>some (.bool !(Op.bytesLess x.data.toList y.data.toList||x.data.toList==y.data.toList))
 | .geq=>some (.bool !(Op.bytesLess x.data.toList y.data.toList))
 | _=>none
def A9c (op:BinOp) (x y:AV):Option AV :=
 match x,y with
 | .lit (.int k a),.lit (.int k' b) =>
  match op with
  | .shl=>if b<0 then none else some (.lit (.int k (k.wrap (a*2 ^ (min b.toNat k.bits)))))
  | .shr=>if b<0 then none else some (.lit (.int k (a.fdiv (2 ^ (min b.toNat k.bits)))))
  | _=>if k=k' then (B1x op k a b).map .lit else none
 | .lit (.string a),.lit (.string b)=>(C05 op a b).map .lit
 | _,_=>none
def A4s:AV→AV→Option Bool
 | .lit (.int k a),.lit (.int k' b)=>if k=k' then some (a==b) else none
 | .lit (.bool a),.lit (.bool b)=>some (a==b)
 | .lit (.string a),.lit (.string b)=>some (a.data.toList==b.data.toList)
 | _,_=>none
def I4:List AV→List AV→Option Bool
 | [],[]=>some true
 | x::l,y::m=>match A4s x y with
  | some true=>I4 l m
  | some false=>some false
  | none=>none
 | _,_=>none
def unV (op:UnOp) (x:AV):Option AV :=
 match op,x with
 | .not,.lit (.bool b)=>some (.lit (.bool !b))
 | .neg,.lit (.int k n)=>some (.lit (.int k (k.wrap (0-n))))
 | _,_=>none
def kinds:List Nat→List AV→Bool
 | [],[]=>true
 | 0::ks,.lit (.int _ _)::l|1::ks,.lit (.bool _)::l|2::ks,.lit (.string _)::l=>kinds ks l
 | _,_=>false
def J9:Bool→AV→Option (List AV)
 | true,.agg cs=>some cs
 | false,.lit v=>some [.lit v]
 | _,_=>none
def findKey (ag:Bool) (ks:List Nat) (k:List AV):List (AV×AV)→Nat→Option (Option (Nat×AV))
 | [],_=>some none
 | e::es,i=>match J9 ag e.1 with
  | some l=>if kinds ks l then match I4 k l with
    | some true=>some (some (i,e.2))
    | some false=>findKey ag ks k es (i+1)
    | none=>none
   else none
  | none=>none
def B1l (cs:List AV):List (Nat×Nat×AV)→Option (List AV)
 | []=>some cs
 | (o,n,v)::l=>if ZC v.cellsOf.length n&&ZH (o+n) cs.length&&ZU 0 n then B1l (splice cs o v.cellsOf) l else none
def A5c (k:Nat) (rows:List (List AV)):List (Nat×AV)→Option (List (List AV))
 | []=>some rows
 | (i,v)::l=>if ZC v.cellsOf.length k&&ZU i rows.length then A5c k (rows.set i v.cellsOf) l else none
def V0 (s:C2):List (Nat×Nat×Opd)→Option (List (Nat×Nat×AV))
 | []=>some []
 | (o,n,x)::l=>(ev s x).bind fun v=>(V0 s l).map ((o,n,v) :: ·)
def M6 (s:C2):List (Nat×Opd)→Option (List (Nat×AV))
 | []=>some []
 | (i,x)::l=>(ev s x).bind fun v=>(M6 s l).map ((i,v) :: ·)
def B5y (rows:List (List AV)):Bool:=rows.all fun r=>r.all AV.frz
def B10 (s:C2) (x:Opd):Option Int :=
 match ev s x with
 | some (.lit (.int _ n))=>some n
 | _=>none
def bnd (s:C2) (d:Int):Option Opd→Option Int
 | none=>some d
 | some x=>B10 s x
def mmV (mx:Bool):AV→List AV→Option AV
 | a,[]=>some a
 | .lit (.int k x),.lit (.int k' y)::l=>if k=k' then mmV mx (.lit (.int k (if mx then (if y>x then y else x) else (if y<x then y else x)))) l else none
 | _,_=>none
def A0n (H:A2):AV→Option (List (List AV))
 | .nils _=>some []
 | .seq _ rows=>some rows
 | .asl b n=>match harr H b with
  | some (_,_,rows)=>if ZC rows.length n then some rows else none
  | none=>match hstk H b with
   | some (_,rows,_)=>if ZC rows.length n then some rows else none
   | none=>none
 | .csl b o k n=>match hcells H b with
  | some cs=>if ZH (o+n*k) cs.length then some ((Z04 n).map fun i=>(cs.drop (o+i*k)).take k) else none
  | none=>none
 | _=>none
def kOf (H:A2):AV→Option Nat
 | .nils k|.seq k _|.csl _ _ k _=>some k
 | .asl b _=>match harr H b with
  | some x=>some x.1
  | none=>(hstk H b).map (·.1)
 | _=>none
def H6 (H:A2):AV→Option (List AV)
 | .ptr b o=>match hcells H b with
  | some cs=>some (cs.drop o)
  | none=>none
 | .eptr b n i o=>match harr H b with
  | some (_,_,rows)=>if ZC rows.length n then match rows[i]? with
    | some r=>some (r.drop o)
    | none=>none
   else none
  | none=>none
 | .cptr cs=>some cs
 | _=>none
def P3 (n0:Nat):List (Nat×Nat×Nat)→List AV→A2→List AV×A2
 | [],zs,H=>(zs,H)
 | (j,r,k)::l,zs,H=>P3 n0 l (zs.set j (.asl (n0+r) 0)) (hset H (n0+r) (.arr k false []))
def prim (c:Sc) (n0:Nat) (s:C2) (H:A2):AOp→Option (AV×A2)
 | .mv x=>(ev s x).map (·,H)
 | .mvz x=>match ev s x with
  | some v=>U4 H v
  | none=>none
 | .pick c a b=>match ev s c with
  | some (.lit (.bool true))=>(ev s a).map (·,H)
  | some (.lit (.bool false))=>(ev s b).map (·,H)
  | _=>none
 | .nil k r=>some (.asl (n0+r) 0,hset H (n0+r) (.arr k false []))
 | .alloc zs owns r =>
  let (zs,H):=P3 n0 owns zs H
  some (.ptr (n0+r) 0,hset H (n0+r) (.cells zs))
 | .box n x r=>match ev s x with
  | some v=>if ZC v.cellsOf.length n then some (.ptr (n0+r) 0,hset H (n0+r) (.cells v.cellsOf)) else none
  | none=>none
 | .build z parts=>(V0 s parts).bind fun ps=>(B1l z ps).map fun cs=>(.agg cs,H)
 | .lits k z n parts own=>(M6 s parts).bind fun ps=>(A5c k (Zv n z) ps).bind fun rows =>
   if B5y rows then match own with
    | none=>some (.seq k rows,H)
    | some r=>some (.asl (n0+r) n,hset H (n0+r) (.arr k false rows))
   else none
 | .xlits k z n parts=>(M6 s parts).bind fun ps=>(A5c k (Zv n z) ps).map fun rows=>(.xseq k rows,H)
 | .load none a=>match ev s a with
  | some p=>match H6 H p with
   | some (x::_)=>some (x,H)
   | _=>none
  | none=>none
 | .load (some k) a=>match ev s a with
  | some p=>match H6 H p with
   | some cs=>if ZH k cs.length then some (.agg (cs.take k),H) else none
   | none=>none
  | none=>none
 | .storeN a k r=>match ev s a with
  | some (.ptr b o)=>match X2 (hset H (n0+r) (.arr k false [])) b with
   | some cs=>if ZH (o+1) cs.length&&c.okL b [.asl (n0+r) 0] then
     some (.tup [],hset (hset H (n0+r) (.arr k false [])) b (.cells (splice cs o [.asl (n0+r) 0]))) else none
   | none=>none
  | _=>none
 | .store k a v=>match ev s a,ev s v with
  | some (.ptr b o),some v=>match X2 H b with
   | some cs=>if ZC v.cellsOf.length k&&ZH (o+k) cs.length&&c.okL b v.cellsOf then
     some (.tup [],hset H b (.cells (splice cs o v.cellsOf))) else none
   | none=>none
  | some (.eptr b n i o),some v=>match Z4 H v.cellsOf with
   | none=>none
   | some (cs,H')=>match A05 H' b with
    | some (kk,false,rows)=>match rows[i]? with
     | some r=>if ZC rows.length n&&ZC cs.length k&&ZH (o+k) r.length&&cs.all AV.frz then
       some (.tup [],hset H' b (.arr kk false (rows.set i (splice r o cs)))) else none
     | none=>none
    | _=>none
  | _,_=>none
 | .nilck x=>match ev s x with
  | some (.ptr b o)=>some (.ptr b o,H)
  | some (.eptr b n i o)=>some (.eptr b n i o,H)
  | some (.cptr cs)=>some (.cptr cs,H)
  | some (.fn (.func f) a b)=>some (.fn (.func f) a b,H)
  | _=>none
 | .bin op x y=>match ev s x,ev s y with
  | some x,some y=>(A9c op x y).map (·,H)
  | _,_=>none
 | .beq neg x y=>match ev s x,ev s y with
  | some (.lit (.bool a)),some (.lit (.bool b))=>some (.lit (.bool (if neg then !(a==b) else a==b)),H)
  | _,_=>none
 | .cmp neg ks x y=>match ev s x,ev s y with
  | some (.agg a),some (.agg b)=>if kinds ks a&&kinds ks b then match I4 a b with
    | some t=>some (.lit (.bool (if neg then !t else t)),H)
    | none=>none
   else none
  | _,_=>none
 | .un op x=>match ev s x with
  | some x=>(unV op x).map (·,H)
  | none=>none
 | .conv k x=>match ev s x with
  | some (.lit (.int _ n))=>some (.lit (.int k (k.wrap n)),H)
  | _=>none
 | .idc x=>match ev s x with
  | some (.lit (.string b))=>some (.lit (.string b),H)
  | _=>none
 | .mkfn f first cap=>match evs s first,evs s cap with
  | some a,some b=>some (.fn f a b,H)
  | _,_=>none
 | .mkmap r=>some (.mp (n0+r),hset H (n0+r) (.map []))
 | .mkslice k bytes z l cp r=>match ev s l,ev s cp with
  | some (.lit (.int .i64 l)),some (.lit (.int .i64 c))=>if l=c∧0≤l∧l*bytes≤1099511627776∧l≤1099511627776 then
    some (.asl (n0+r) l.toNat,hset H (n0+r) (.arr k false (Zv l.toNat z))) else none
  | _,_=>none
 | .sliceS x lo hi=>match ev s x with
  | some (.lit (.string b))=>match bnd s 0 lo,bnd s b.size hi with
   | some l,some h=>if 0≤l∧l≤h∧h≤b.size then some (.lit (.string (b.extract l.toNat h.toNat)),H) else none
   | _,_=>none
  | _=>none
 | .sliceL kk x lo hi=>match ev s x with
  | some v=>match U4 H v with
   | some (.seq k rows,H')=>match bnd s 0 lo,bnd s rows.length hi with
    | some l,some h=>if 0≤l∧l≤h∧h≤rows.length∧k=kk then some (.seq k ((rows.take h.toNat).drop l.toNat),H') else none
    | _,_=>none
   | _=>none
  | none=>none
 | .sliceQ kk x lo hi=>match (ev s x).bind (A8e H) with
  | some (k,rows)=>match bnd s 0 lo,bnd s rows.length hi with
    | some l,some h=>if 0≤l∧l≤h∧h≤rows.length∧k=kk then some (.seq k ((rows.take h.toNat).drop l.toNat),H) else none
    | _,_=>none
  | none=>none
 | .sliceA k n x hi=>match ev s x with
  | some (.ptr b o)=>match hcells H b,bnd s n hi with
   | some cs,some h=>if ZH (o+n*k) cs.length&&(0≤h∧h≤n:Bool) then some (.csl b o k h.toNat,H) else none
   | _,_=>none
  | _=>none
 | .nilq neg x=>match ev s x with
  | some (.nils _)=>some (.lit (.bool !neg),H)
  | some (.csl _ _ _ _)|some (.seq _ (_::_))=>some (.lit (.bool neg),H)
  | _=>none
 | .fieldAddr off x=>match ev s x with
  | some (.ptr b o)=>some (.ptr b (o+off),H)
  | some (.eptr b n i o)=>some (.eptr b n i (o+off),H)
  | some (.cptr cs)=>some (.cptr (cs.drop off),H)
  | _=>none
 | .field k off x=>match ev s x with
  | some (.agg cs)=>match k with
   | none=>(cs[off]?).map (·,H)
   | some k=>if ZH (off+k) cs.length then some (.agg ((cs.drop off).take k),H) else none
  | _=>none
 | .idxS k x i=>match ev s x,ev s i with
  | some (.seq k' rows),some (.lit (.int _ i))=>if 0≤i∧k'=k then match rows[i.toNat]? with
    | some r=>some (.cptr r,H)
    | none=>none
   else none
  | some (.xseq k' rows),some (.lit (.int _ i))=>if 0≤i∧k'=k then match rows[i.toNat]? with
    | some r=>some (.cptr r,H)
    | none=>none
   else none
  | some (.asl b n),some (.lit (.int _ i))=>match harr H b with
   | some (k',_,rows)=>if 0≤i∧i<n∧k'=k∧rows.length=n then some (.eptr b n i.toNat 0,H) else none
   | none=>none
  | some (.csl b o m n),some (.lit (.int _ i))=>match harr H b with
   | some (k',_,rows)=>if 0≤i∧i<n∧k'=k∧rows.length=m then some (.eptr b m (o+i.toNat) 0,H) else none
   | none=>none
  | _,_=>none
 | .idxA k n x i=>match ev s x,ev s i with
  | some (.ptr b o),some (.lit (.int _ i))=>if 0≤i∧i<n then some (.ptr b (o+i.toNat*k),H) else none
  | some (.eptr b m j o),some (.lit (.int _ i))=>if 0≤i∧i<n then some (.eptr b m j (o+i.toNat*k),H) else none
  | some (.cptr cs),some (.lit (.int _ i))=>if 0≤i∧i<n then some (.cptr (cs.drop (i.toNat*k)),H) else none
  | _,_=>none
 | .idxStr x i=>match ev s x,ev s i with
  | some (.lit (.string b)),some (.lit (.int _ i))=>if 0≤i then (b[i.toNat]?).map fun c=>(.lit (.int .u8 c.toNat),H) else none
  | _,_=>none
 | .idxAgg k sz n x i=>match ev s x,ev s i with
  | some (.agg cs),some (.lit (.int _ i))=>if 0≤i∧i<n then match k with
    | none=>(cs[i.toNat*sz]?).map (·,H)
    | some k=>if ZH (i.toNat*sz+k) cs.length then some (.agg ((cs.drop (i.toNat*sz)).take k),H) else none
   else none
  | _,_=>none
 | .lookup z ag ks x i ok=>match ev s x,ev s i with
  | some m,some key=>match (match m with|.mp b=>hmap H b|.lit (.map none)=>some []|_=>none),J9 ag key with
   | some es,some cs=>if kinds ks cs then match findKey ag ks cs es 0 with
     | some (some (_,v))=>some (if ok then .tup [v,.lit (.bool true)] else v,H)
     | some none=>some (if ok then .tup [z,.lit (.bool false)] else z,H)
     | none=>none
    else none
   | _,_=>none
  | _,_=>none
 | .mupd ag ks m k v=>match ev s m,ev s k,ev s v with
  | some (.mp b),some key,some v=>match B18 H b,J9 ag key with
   | some es,some cs=>if kinds ks cs&&v.cellsOf.all AV.frz&&!v.cellsOf.isEmpty then match findKey ag ks cs es 0 with
     | some (some (i,_))=>some (.tup [],hset H b (.map (es.set i (key,v))))
     | some none=>some (.tup [],hset H b (.map (es++[(key,v)])))
     | none=>none
    else none
   | _,_=>none
  | _,_,_=>none
 | .range x r=>match ev s x with
  | some (.lit (.string b))=>some (.itr (n0+r),hset H (n0+r) (.iter b 0))
  | _=>none
 | .rangeM x r=>match ev s x with
  | some (.mp b)=>match hmap H b with
   | some es=>some (.itr (n0+r),hset H (n0+r) (.mit b es.length []))
   | none=>none
  | _=>none
 | .entry x=>match ev s x with
  | some (.itr b)=>match B1m H b with
   | some e=>some (.tup [e.1,e.2],H)
   | none=>none
  | _=>none
 | .next x=>match ev s x with
  | some (.itr b)=>match hget H b with
   | some (.iter t pos)=>if pos<t.size then
     some (.tup [.lit (.bool true),.lit (.int .i64 pos),.lit (.int .i32 (Utf8.decode t pos).1)],hset H b (.iter t (pos+(Utf8.decode t pos).2)))
    else some (.tup [.lit (.bool false)],H)
   | _=>none
  | _=>none
 | .extract x i=>match ev s x with
  | some (.tup cs)=>(cs[i]?).map (·,H)
  | _=>none
 | .lenS x=>match ev s x with
  | some (.lit (.string b))=>some (.lit (.int .i64 b.size),H)
  | _=>none
 | .lenM x=>match ev s x with
  | some (.mp b)=>match hmap H b with
   | some es=>some (.lit (.int .i64 es.length),H)
   | none=>none
  | some (.lit (.map none))=>some (.lit (.int .i64 (0:Nat)),H)
  | _=>none
 | .lenL x=>match ev s x with
  | some (.nils _)=>some (.lit (.int .i64 (0:Nat)),H)
  | some (.seq _ rows)=>some (.lit (.int .i64 rows.length),H)
  | some (.xseq _ rows)=>some (.lit (.int .i64 rows.length),H)
  | some (.csl _ _ _ n)=>some (.lit (.int .i64 n),H)
  | some (.asl b n)=>match harr H b with
   | some (_,_,rows)=>if rows.length=n then some (.lit (.int .i64 n),H) else none
   | none=>match hstk H b with
    | some (_,rows,_)=>if rows.length=n then some (.lit (.int .i64 n),H) else none
    | none=>none
  | _=>none
 | .mm mx xs=>match evs s xs with
  | some (x::l)=>(mmV mx x l).map (·,H)
  | _=>none
 | .append k bytes d x r fz=>match ev s d,ev s x with
  | some d,some x=>match A0n H x,kOf H x with
   | some new,some k'=>if ZC k k' && B5y new then match d with
     | .nils _=>if new.length*bytes≤1099511627776∧new.length≤1099511627776 then match fz,r with
       | true,some r=>if 0<new.length&&0<k&&new.all fun x=>ZC x.length k then some (.asl (n0+r) new.length,hset H (n0+r) (.stk k new [])) else none
       | true,none=>some (.seq k new,H)
       | false,some r=>some (.asl (n0+r) new.length,hset H (n0+r) (.arr k false new))
       | false,none=>none
      else none
     | .asl b n=>match A05 H b with
      | some (kk,p,rows)=>if ZC rows.length n&&ZC kk k&&(n+new.length)*bytes≤1099511627776&&n+new.length≤1099511627776 then
        match fz,r with
        | true,some _=>none
        | true,none=>some (.seq k (rows++new),hset H b .dead)
        | false,_=>some (.asl b (n+new.length),hset H b (.arr k p (rows++new))) else none
      | none=>match fz,r,B53 H b with
       | true,some r,some (kk,rows,anc)=>if ZC rows.length n&&ZC kk k&&(n+new.length)*bytes≤1099511627776&&n+new.length≤1099511627776&&0<new.length&&ZU b (n0+r)&&(new.all fun x=>ZC x.length k)&&(H.drop (b+1)).all (fun o=>!o.grew b) then
         some (.asl (n0+r) (n+new.length),hset H (n0+r) (.stk k (rows++new) (b::anc))) else none
       | _,_,_=>none
     | _=>none
    else none
   | _,_=>none
  | _,_=>none
 | .copy k d x=>match ev s d,ev s x with
  | some (.asl b n),some x=>match A05 H b,A0n H x,kOf H x with
   | some (kk,false,rows),some src,some k'=>if ZC rows.length n&&ZC kk k&&ZC k k' && B5y src then
     some (.lit (.int .i64 (min src.length n:Nat)),hset H b (.arr kk false (src.take (min src.length n)++rows.drop (min src.length n)))) else none
   | _,_,_=>none
  | some (.csl b o kk n),some x=>match X2 H b,A0n H x,kOf H x with
   | some cs,some src,some k'=>if ZC kk k&&ZC k k' && B5y src&&ZH (o+(min src.length n)*k) cs.length then
     some (.lit (.int .i64 (min src.length n:Nat)),hset H b (.cells (splice cs o (src.take (min src.length n)).flatten))) else none
   | _,_,_=>none
  | _,_=>none
 | .cut _ x hi r=>match ev s x with
  | some (.asl b n)=>match A05 H b,bnd s n hi with
   | some (k,false,rows),some h=>if ZC rows.length n&&(0≤h∧h≤n:Bool) then
     some (.asl (n0+r) h.toNat,hset (hset H b .dead) (n0+r) (.arr k false (rows.take h.toNat))) else none
   | _,_=>none
  | _=>none
 | .sub kk x lo hi=>match ev s x with
  | some (.seq k rows)=>match bnd s 0 lo,bnd s rows.length hi with
   | some l,some h=>if 0≤l∧l≤h∧h≤rows.length∧k=kk then some (.seq k ((rows.take h.toNat).drop l.toNat),H) else none
   | _,_=>none
  | some (.asl b n)=>match harr H b with
   | some (k,_,rows)=>match bnd s 0 lo,bnd s n hi with
    | some l,some h=>if 0≤l∧l≤h∧h≤n∧k=kk∧rows.length=n then some (if l=h then .seq k [] else .csl b l.toNat n (h.toNat-l.toNat),H) else none
    | _,_=>none
   | none=>none
  | _=>none
 | .clear k z x=>match ev s x with
  | some (.csl b o m n)=>match A05 H b with
   | some (kk,false,rows)=>if rows.length=m∧kk=k∧o+n≤m∧0<n then some (.tup [],hset H b (.arr k false (rows.take o++(Zv n z++rows.drop (o+n))))) else none
   | _=>none
  | _=>none
 | .call ..=>none
def A1u (B:Nat) (H:A2):AV→Option (AV×A2)
 | .asl b n=>match A05 H b with
  | some (k,false,rows)=>if ZH B b then (if ZC rows.length n then some (.fresh k rows,hset H b .dead) else none) else frv H (.asl b n)
  | _=>frv H (.asl b n)
 | .nils k=>some (.seq k [],H)
 | v=>some (v,H)
def W8 (B:Nat) (H:A2):List AV→Option (List AV×A2)
 | []=>some ([],H)
 | v::l=>match A1u B H v with
  | none=>none
  | some (v',H')=>match W8 B H' l with
   | none=>none
   | some (l',H'')=>some (v'::l',H'')
def X7 (B:Nat) (H:A2):AV→Option (AV×A2)
 | .agg cs=>(W8 B H cs).map fun r=>(.agg r.1,r.2)
 | v=>A1u B H v
def S7 (B:Nat) (H:A2):List AV→Option (List AV×A2)
 | []=>some ([],H)
 | v::l=>match X7 B H v with
  | none=>none
  | some (v',H')=>match S7 B H' l with
   | none=>none
   | some (l',H'')=>some (v'::l',H'')
def A0k (j:Nat):List (Nat×Nat)→Option Nat
 | []=>none
 | x::l=>bif ZC x.1 j then some x.2 else A0k j l
def inC (n0:Nat) (H:A2) (own:List (Nat×Nat)) (j:Nat):AV→AV×A2
 | .fresh k rows=>match A0k j own with
  | some r=>(.asl (n0+r) rows.length,hset H (n0+r) (.arr k false rows))
  | none=>(.seq k rows,H)
 | v=>(v,H)
def A4u (n0:Nat) (H:A2) (own:List (Nat×Nat)):Nat→List AV→List AV×A2
 | _,[]=>([],H)
 | j,v::l=>let x:=inC n0 H own j v;let y:=A4u n0 x.2 own (j+1) l;(x.1::y.1,y.2)
def inV (n0:Nat) (H:A2) (own:List (Nat×Nat)):AV→AV×A2
 | .agg cs=>let x:=A4u n0 H own 0 cs;(.agg x.1,x.2)
 | v=>inC n0 H own 0 v
def Z5 (n0:Nat) (H:A2):List AV→List (List (Nat×Nat))→List AV×A2
 | [],_=>([],H)
 | v::l,own=>let x:=inV n0 H (own.headD []) v;let y:=Z5 n0 x.2 l own.tail;(x.1::y.1,y.2)
def packed:List AV→AV
 | [v]=>v
 | l=>.tup l
inductive ARes where
 | tmp (t:Nat)
 | cell (t:Nat) (k:Option Nat)
 deriving Inhabited
structure AFunc where
 nargs:Nat
 body:ACode
 results:List ARes
 deriving Inhabited
structure St where
 s:C2
 H:A2
 c:Sc
 deriving Inhabited
def results (s:C2) (H:A2):List ARes→Option (List AV)
 | []=>some []
 | .tmp t::l=>(sget s t).bind fun v=>(results s H l).map (v :: ·)
 | .cell t k::l=>(prim ⟨0,[]⟩ 0 s H (.load k (.t t))).bind fun v=>(results s H l).map (v.1 :: ·)
def M0:Nat→List AV→C2
 | _,[]=>[]
 | i,v::l=>(i,v)::M0 (i+1) l
def A1m (N:Nat):C2→Bool
 | []=>true
 | x::s=>x.2.bd N&&A1m N s
def trunc (B:Nat) (rs:List AV) (H:A2):A2:=if bdL B rs then H.take B else H
structure Mach where
 call:Sc→A2→AV→List AV→Option (List AV×A2)
 code:ACode→St→Option (Ex×St)
abbrev Tab:=Nat→Option AFunc
def AV.box?:AV→Option Nat
 | .ptr b _|.itr b|.eptr b _ _ _|.asl b _|.mp b|.csl b _ _ _=>some b
 | _=>none
def follow (H:A2):Nat→List Nat→Option Nat
 | b,[]=>some b
 | b,o::l=>match hcells H b with
  | some cs=>match (cs[o]?).bind AV.box? with
   | some b'=>follow H b' l
   | none=>none
  | none=>none
def ways (s:C2) (H:A2):List (Nat×List Nat)→Option (List Nat)
 | []=>some []
 | x::l=>match (sget s x.1).bind AV.box? with
  | some b=>match follow H b x.2,ways s H l with
   | some b',some r=>some (b'::r)
   | _,_=>none
  | none=>none
def N4:AOp→Option Opd
 | .load _ a|.lookup _ _ _ a _ _|.lenL a|.lenM a|.idxS _ a _|.sliceA _ _ a _|.sliceQ _ a _ _|.sub _ a _ _=>some a
 | _=>none
def rbox (s:C2) (op:AOp):Option Nat:=((N4 op).bind (ev s)).bind AV.box?
def B7s:AOp→Bool
 | .append _ _ _ _ (some _) true=>true
 | _=>false
def writes:AOp→Bool
 | .store .. | .storeN .. | .append .. | .copy .. | .next .. | .entry .. | .rangeM .. | .mupd .. | .cut .. | .clear .. | .sliceL .. | .mvz ..=>true
 | .call _ _ _ pure=>!pure
 | _=>false
def wanted (s:C2):Option (Nat×Bool)→Option Bool
 | none=>some true
 | some (t,want)=>match sget s t with
  | some (.lit (.bool b))=>some (b==want)
  | some (.tup [])=>some false
  | _=>none
def Y4 (H:A2):AV→Option A2
 | .ptr b _=>match X2 H b with
  | some cs=>match Z4 H cs with
   | some r=>match X2 r.2 b with
    | some _=>some (hset r.2 b (.cells r.1))
    | none=>none
   | none=>none
  | none=>none
 | v=>(U4 H v).map (·.2)
def publish (s:C2) (H:A2):List Nat→Option A2
 | []=>some H
 | t::l=>match sget s t with
  | some v=>match Y4 H v with
   | some H1=>publish s H1 l
   | none=>none
  | none=>none
def pubbed (H:A2):AV→Bool
 | .asl b _=>match harr H b with
  | some (_,p,_)=>p
  | none=>false
 | _=>true
def R6 (H:A2):AV→Bool
 | .agg cs=>cs.all (pubbed H)
 | v=>pubbed H v
def lend (own:List (List (Nat×Nat))):Bool:=ZC own.length 9
def A1n (own:List (List (Nat×Nat))) (H:A2) (aq:List AV):Option (List AV×A2):=if lend own then some (aq,H) else S6 H aq
def W2 (M:Mach) (c:Sc) (n0:Nat) (s:C2) (H:A2) (f:Opd) (args:List Opd) (own:List (List (Nat×Nat))) (pure:Bool):Option (AV×A2) :=
 match ev s f,evs s args with
 | some f,some aq =>
  if pure then
   if lend own||aq.all (R6 H) then match A1n own H aq with
    | none=>none
    | some (aq,_)=>match M.call c (H.map AO.toRo) f aq with
     | none=>none
     | some (rs,_)=>if bdL H.length rs then let x:=Z5 n0 H rs own;some (packed x.1,x.2) else none
   else none
  else match A1n own H aq with
   | none=>none
   | some (aq,H)=>match M.call c H f aq with
    | none=>none
    | some (rs,H')=>let x:=Z5 n0 H' rs own;some (packed x.1,x.2)
 | _,_=>none
def core (M:Mach) (c:Sc) (n0:Nat) (s:C2) (H:A2):AOp→Option (AV×A2)
 | .call f args own pure=>W2 M c n0 s H f args own pure
 | op=>prim c n0 s H op
def A4t (n0:Nat) (s:C2) (H:A2) (o:AOper):Option (List Nat) :=
 match ways s (hide H (o.hid.map (n0 + ·))) o.hida with
 | some bs=>let hs:=o.hid.map (n0 + ·)++bs;if (!writes o.op||hs.all fun b=>ZU b H.length)&&bs.all (fun b=>(hstk (hide H (o.hid.map (n0 + ·))) b).isNone) then some hs else none
 | none=>none
def P8 (s:C2) (o:AOper) (hc:List (Option (List Nat))):Bool :=
 match rbox s o.op with
 | none=>true
 | some b=>(hc.take o.inc).all fun e=>match e with
  | none=>true
  | some hs=>hs.contains b
def oper (M:Mach) (c:Sc) (n0:Nat) (s:C2) (H:A2) (hc:List (Option (List Nat))) (o:AOper):Option (C2×A2×List (Option (List Nat))) :=
 match wanted s o.guard with
 | none=>none
 | some false=>some (sput s o.dst (.tup []),H,if writes o.op then none::hc else hc)
 | some true=>match A4t n0 s H o,P8 s o hc with
  | some hs,true=>match core M c n0 s (hide H hs) o.op with
   | some r=>if hs.isEmpty||ZH H.length r.2.length then some (sput s o.dst r.1,unhide H r.2 hs,if writes o.op then some hs::hc else hc) else none
   | none=>none
  | _,_=>none
def opers (M:Mach) (c:Sc) (n0:Nat):List AOper→C2→A2→List (Option (List Nat))→Option (C2×A2)
 | [],s,H,_=>some (s,H)
 | o::l,s,H,hc=>match oper M c n0 s H hc o with
  | none=>none
  | some (s,H,hc)=>opers M c n0 l s H hc
def M8 (n:Nat) (seen:List Nat):List Nat:=(Z04 n).filter fun i=>!seen.contains i
open Classical in
noncomputable def B4m {α:Type} (l:List Nat) (f:Nat→Option α):Option α:=if h:∃r,∀ i∈l,f i=some r then some h.choose else none
theorem B0l {α:Type} {l:List Nat} {f:Nat→Option α} {r:α} (h:B4m l f=some r) {i:Nat} (hi:i∈l):f i=some r:= by
 unfold B4m at h
 split at h
 ·next hx=>cases h;exact hx.choose_spec i hi
 ·cases h
theorem B65 {α:Type} {l:List Nat} {f:Nat→Option α} {r:α} (h:∀i∈l,f i=some r) (hl:l≠[]):B4m l f=some r:= by
 unfold B4m
 have hx:∃r,∀ i∈l,f i=some r:=⟨r,h⟩
 rw[dif_pos hx]
 cases l with
 | nil=>exact absurd Z hl
 | cons i l=>exact(hx.choose_spec i (Zy ..)).symm.trans (h i (Zy ..))
def A4q (liveX:List Nat) (l:Nat) (c:Sc) (e:Ex) (st:St):Option (Ex×St):=match hget st.H l with
 | some (.mit _ _ _)=>some (e,{ s:=restrict st.s liveX,H:=hset st.H l .dead,c:=c })
 | _=>none
noncomputable def F1 (M:Mach) (st:St):ACode→Option (Ex×St)
 | .skip=>some (.normal,st)
 | .region _ nres pre ops live=>match publish st.s st.H pre with
  | some H=>match opers M st.c H.length ops st.s (H++Zv nres .dead) [] with
   | some r=>some (.normal,{ st with s:=restrict r.1 live,H:=r.2 })
   | none=>none
  | none=>none
 | .seq a b=>match M.code a st with
  | some (.normal,st')=>M.code b st'
  | r=>r
 | .cond c a b=>match ev st.s c with
  | some (.lit (.bool true))=>M.code a st
  | some (.lit (.bool false))=>M.code b st
  | _=>none
 | .block id a=>match M.code a st with
  | some (.exit j,st')=>if ZC j id then some (.normal,st') else some (.exit j,st')
  | r=>r
 | .loop tr live body =>
  match M.code body (if tr then { s:=restrict st.s live,H:=st.H,c:=⟨st.H.length,st.c.cur::st.c.outer⟩ } else { st with s:=restrict st.s live }) with
  | some (.normal,st') =>
   let s:=restrict st'.s live
   if tr then (if A1m st.H.length s then M.code (.loop tr live body) { s,H:=st'.H.take st.H.length,c:=st.c } else none)
   else M.code (.loop tr live body) { s,H:=st'.H,c:=st.c }
  | some (e,st')=>some (e,{ st' with c:=st.c })
  | none=>none
 | .rangeFunc f ps live assign body=>match ev st.s f with
  | some (.fn (.func i) fa fc) =>
   let l:=st.H.length
   match M.call st.c (st.H++[.loop 0 (restrict st.s live) ps assign body false none]) (.fn (.func i) fa fc) [.fn (.yield l) [] []] with
   | some (_,H')=>match hget H' l with
    | some (.loop _ _ _ _ _ false none)=>some (.normal,{ st with H:=hset H' l .dead })
    | some (.loop _ _ _ _ _ false (some e))=>some (e,{ st with H:=hset H' l .dead })
    | _=>none
   | none=>none
  | _=>none
 | .loopM x nx ok live0 live liveX rest=>match ev st.s x with
  | some (.itr l)=>match hget st.H l with
   | some (.mit m n seen)=>match hmap st.H m with
    | some es =>
     if es.length=n&&!live0.contains nx&&!live0.contains ok&&!Nat.beq nx ok then
      if (M8 n seen).isEmpty then match M.code rest { st with s:=(ok,.b false)::restrict st.s live0 } with
       | some (.normal,_)=>none
       | some (e,st')=>A4q liveX l st.c e st'
       | none=>none
      else B4m (M8 n seen) fun i=>match M.code rest { s:=(ok,.b true)::restrict st.s live0,H:=hset st.H l (.mit m n (seen++[i])),c:=⟨st.H.length,st.c.cur::st.c.outer⟩ } with
       | some (.normal,st')=>if A1m st.H.length (restrict st'.s live) then M.code (.loopM x nx ok live0 live liveX rest) { s:=restrict st'.s live,H:=st'.H.take st.H.length,c:=st.c } else none
       | some (e,st')=>A4q liveX l st.c e st'
       | none=>none
     else none
    | none=>none
   | _=>none
  | _=>none
 | .scope a=>M.code a st
 | .exit id=>some (.exit id,st)
 | .ret=>some (.ret,st)
def N0 (T:Tab) (M:Mach) (c:Sc) (H:A2) (f:AV) (args:List AV):Option (List AV×A2) :=
 match f with
 | .fn (.func i) first cap=>match T i with
  | none=>none
  | some af =>
   let aq:=first++args++cap
   if ZC aq.length af.nargs&&ZU af.nargs 1000 then
    match M.code af.body { s:=M0 0 aq,H,c:=⟨H.length,c.cur::c.outer⟩ } with
    | some (.normal,st)|some (.ret,st)=>match results st.s st.H af.results with
     | none=>none
     | some rs=>match S7 H.length st.H rs with
      | none=>none
      | some (rs,H')=>some (rs,trunc H.length rs H')
    | _=>none
   else if ZC (aq.length+1000) af.nargs then
    match M.code af.body { s:=M0 0 aq,H,c:=⟨H.length,c.cur::c.outer⟩ } with
    | some (.normal,st)|some (.ret,st)=>match results st.s st.H af.results with
     | none=>none
     | some rs=>some (rs,trunc H.length rs st.H)
    | _=>none
   else none
 | .fn (.yield l) [] []=>match hget H l with
  | some (.loop _ s ps assign body false none) =>
   if ZC ps.length args.length then
    match M.code assign { s:=(ps.zip args).foldl (fun s x=>sput s (some x.1) x.2) s,H,c:=⟨H.length,c.cur::c.outer⟩ } with
    | some (.normal,st)=>match hget st.H l with
     | some (.loop f1 s1 ps1 a1 b1 false none)=>match M.code body { st with H:=hset st.H l (.loop f1 s1 ps1 a1 b1 true none) } with
      | some (e,st')=>match hget st'.H l with
       | some (.loop f2 s2 ps2 a2 b2 true none) =>
        some ([.b (match e with|.normal=>true|_=>false)],trunc H.length [] (hset st'.H l (.loop f2 s2 ps2 a2 b2 false (match e with|.normal=>none|e=>some e))))
       | _=>none
      | none=>none
     | _=>none
    | _=>none
   else none
  | _=>none
 | _=>none
noncomputable def mach (T:Tab):Nat→Mach
 | 0=>⟨fun _ _ _ _=>none,fun _ _=>none⟩
 | n+1=>⟨fun c H f args=>N0 T (mach T n) c H f args,fun c st=>F1 (mach T n) st c⟩
def B50:Nat→List AV:=fun _=>[]
inductive GB where
 | none
 | cells (β:Nat) (e:TypeId)
 | arr (k:Nat) (v:Value)
 | map (β:Nat)
 | iter (β:Nat)
 | loop (β:Nat)
def GB.blk:GB→Option Nat
 | .cells β _|.map β|.iter β|.loop β=>some β
 | .arr _ (.slice (some a) _ _)=>some a.block
 | _=>.none
def slen:Value→Nat
 | .slice _ n _=>n
 | _=>0
def GB.le:GB→GB→Prop
 | .none,_=>True
 | .arr k v,g=>g=.arr k v∨∃ v',g=.arr k v'∧slen v<slen v'
 | a,g=>g=a
def C7v (Φ:Nat→Nat→Option Value):Prop:=∀ i j x,(B50 i)[j]? = some x→∃ v,x=.lit v∧v.oneCell'=true∧Φ i j=some v
theorem C7v.mono {Φ Φ':Nat→Nat→Option Value} (h:C7v Φ) (k:∀β o v,Φ β o=some v→Φ' β o=some v):C7v Φ' :=
 fun i j x hx=>let ⟨v,h1,h2,h3⟩:=h i j x hx;⟨v,h1,h2,k _ _ _ h3⟩
structure Ghost where
 L:Nat→GB
 Φ:Nat→Nat→Option Value
 gl:C7v Φ
inductive Den (Φ:Nat→Nat→Option Value):AV→Value→Prop
 | lit (v:Value) (h:v.oneCell'=true):Den Φ (.lit v) v
 | nils (k:Nat):Den Φ (.nils k) (.slice none 0 0)
 | seq0 (k:Nat) (a:Option Addr) (c:Nat):Den Φ (.seq k []) (.slice a 0 c)
 | seq (k:Nat) (rows:List (List AV)) (a:Addr) (c:Nat) (vs:Nat→Nat→Value) (hs:a.spot=none) (hcap:rows.length≤c)
   (hlen:∀r∈rows,r.length=k)
   (h1:∀i r j x,rows[i]? = some r→r[j]? = some x→Φ a.block (a.off+(i*k+j))=some (vs i j))
   (h2:∀i r j x,rows[i]? = some r→r[j]? = some x→Den Φ x (vs i j)):Den Φ (.seq k rows) (.slice (some a) rows.length c)
def B8r (g:Ghost):Fn→Fn→Prop
 | .func i,f=>f=.func i
 | .yield l,f=>∃ β,g.L l=.loop β∧f=.yield β
 | _,_=>False
inductive V (g:Ghost):AV→Value→Prop
 | den (x:AV) (v:Value) (h:Den g.Φ x v):V g x v
 | ptr (b o β:Nat) (e:TypeId) (h:g.L b=.cells β e):V g (.ptr b o) (.pointer (some ⟨β,o,none⟩))
 | itr (b β:Nat) (h:g.L b=.iter β):V g (.itr b) (.pointer (some ⟨β,0,none⟩))
 | eptr (b n i o:Nat) (k:Nat) (v:Value) (p:Addr) (h:g.L b=.arr k v) (hle:n≤slen v)
   (hp:slen v=n→∃ β c,v=.slice (some ⟨β,0,none⟩) n c∧p=⟨β,i*k+o,none⟩):V g (.eptr b n i o) (.pointer (some p))
 | cptr (cs:List AV) (a:Addr) (vs:Nat→Value) (hs:a.spot=none)
   (h1:∀j x,cs[j]? = some x→g.Φ a.block (a.off+j)=some (vs j)) (h2:∀j x,cs[j]? = some x→V g x (vs j))
   (h3:∀j x,cs[j]? = some x→(vs j).oneCell'=true):V g (.cptr cs) (.pointer (some a))
 | asl (b n:Nat) (k:Nat) (v0 v:Value) (h:g.L b=.arr k v0) (hle:n≤slen v0) (h1:v.oneCell'=true) (hn:slen v0=n→v=v0):V g (.asl b n) v
 | csl (b o k n β c:Nat) (e:TypeId) (h:g.L b=.cells β e) (hc:n≤c):V g (.csl b o k n) (.slice (some ⟨β,o,none⟩) n c)
 | csa (b o k n kk c:Nat) (v:Value) (x:Addr) (h:g.L b=.arr kk v) (hc:n≤c) (hle:k≤slen v)
   (hp:slen v=k→∃ β c0,v=.slice (some ⟨β,0,none⟩) k c0∧x=⟨β,o*kk,none⟩∧o+n≤k):V g (.csl b o k n) (.slice (some x) n c)
 | mp (b β:Nat) (h:g.L b=.map β):V g (.mp b) (.map (some β))
 | fn (f f':Fn) (a c:List AV) (a' c':Array Value) (hf:B8r g f f') (l1:a'.size=a.length) (l2:c'.size=c.length)
   (h1:∀(j:Nat) x,a[j]? = some x→V g x (a'[j]?.getD undef)) (h2:∀(j:Nat) x,c[j]? = some x→V g x (c'[j]?.getD undef)):V g (.fn f a c) (.func f' a' c')
 | xseq (k:Nat) (rows:List (List AV)) (a:Addr) (c:Nat) (vs:Nat→Nat→Value) (hs:a.spot=none) (hcap:rows.length≤c)
   (hlen:∀r∈rows,r.length=k)
   (h1:∀i r j x,rows[i]? = some r→r[j]? = some x→g.Φ a.block (a.off+(i*k+j))=some (vs i j))
   (h2:∀i r j x,rows[i]? = some r→r[j]? = some x→V g x (vs i j))
   (h3:∀i r j x,rows[i]? = some r→r[j]? = some x→(vs i j).oneCell'=true):V g (.xseq k rows) (.slice (some a) rows.length c)
 | agg (cs:List AV) (vs:Array Value) (hl:vs.size=cs.length) (h:∀(j:Nat) x,cs[j]? = some x→V g x (vs[j]?.getD undef))
   (h1:∀(j:Nat) x,cs[j]? = some x→(vs[j]?.getD undef).oneCell'=true):V g (.agg cs) (.agg vs)
 | tup (cs:List AV) (vs:Array Value) (hl:vs.size=cs.length) (h:∀(j:Nat) x,cs[j]? = some x→V g x (vs[j]?.getD undef)):V g (.tup cs) (.tuple vs)
structure Ghost.le (g g':Ghost):Prop where
 L:∀i,(g.L i).le (g'.L i)
 Φ:∀β o v,g.Φ β o=some v→g'.Φ β o=some v
theorem GB.le_refl (a:GB):a.le a:= by cases a <;> simp[GB.le]
theorem GB.le_trans {a b c:GB} (h:a.le b) (k:b.le c):a.le c:= by
 cases a <;> simp only[GB.le]at h ⊢
 case arr q v =>
  rcases h with rfl|⟨v',rfl,hv⟩
  ·exact k
  ·rcases k with rfl|⟨v'',rfl,hw⟩
   ·exact .inr ⟨_,Z,hv⟩
   ·exact .inr ⟨_,Z,by omega⟩
 all_goals (subst h;exact k)
theorem Ghost.le_refl (g:Ghost):g.le g:=⟨fun _=>GB.le_refl _,fun _ _ _ h=>h⟩
theorem Ghost.le.trans {a b c:Ghost} (h:a.le b) (k:b.le c):a.le c :=
 ⟨fun i=>GB.le_trans (h.L i) (k.L i),fun β o v hv=>k.Φ β o v (h.Φ β o v hv)⟩
theorem Den.mono {Φ Φ':Nat→Nat→Option Value} (hΦ:∀β o v,Φ β o=some v→Φ' β o=some v) {x:AV} {v:Value} (h:Den Φ x v):Den Φ' x v:= by
 induction h with
 | lit v h=>exact .lit v h
 | nils k=>exact .nils k
 | seq0 k a c=>exact .seq0 k a c
 | seq k rows a c vs hs hcap hlen h1 h2 ih =>
  exact .seq k rows a c vs hs hcap hlen (fun i r j x hi hj=>hΦ _ _ _ (h1 i r j x hi hj)) (fun i r j x hi hj=>ih i r j x hi hj)
theorem C85 {g g':Ghost} (h:g.le g') {b β:Nat} {e:TypeId} (hb:g.L b=.cells β e):g'.L b=.cells β e:= by
 have:=h.L b;rw[hb]at this;exact this
theorem E0o {g g':Ghost} (h:g.le g') {b β:Nat} (hb:g.L b=.iter β):g'.L b=.iter β:= by
 have:=h.L b;rw[hb]at this;exact this
theorem D7r {g g':Ghost} (h:g.le g') {b β:Nat} (hb:g.L b=.map β):g'.L b=.map β:= by
 have:=h.L b;rw[hb]at this;exact this
theorem C0k {g g':Ghost} (h:g.le g') {b β:Nat} (hb:g.L b=.loop β):g'.L b=.loop β:= by
 have:=h.L b;rw[hb]at this;exact this
theorem B8r.mono {g g':Ghost} (h:g.le g') {f f':Fn} (hf:B8r g f f'):B8r g' f f':= by
 cases f <;> simp only[B8r]at hf ⊢
 ·exact hf
 ·obtain⟨β,hl,rfl⟩:=hf
  exact⟨β,C0k h hl,Z⟩
theorem V.mono {g g':Ghost} (hg:g.le g') {x:AV} {v:Value} (h:V g x v):V g' x v:= by
 induction h with
 | den x v h=>exact .den _ _ (h.mono hg.Φ)
 | ptr b o β e h=>exact .ptr b o β e (C85 hg h)
 | itr b β h=>exact .itr b β (E0o hg h)
 | eptr b n i o k v p h hle hp =>
  have:=hg.L b;rw[h]at this
  rcases this with h' | ⟨v',h',hlt⟩
  ·exact .eptr b n i o k v p h' hle hp
  ·exact .eptr b n i o k v' p h' (by omega) (fun hn=>by omega)
 | cptr cs a vs hs h1 h2 h3 ih=>exact .cptr cs a vs hs (fun j x hj=>hg.Φ _ _ _ (h1 j x hj)) ih h3
 | asl b n k v0 v h hle h1 hn =>
  have:=hg.L b;rw[h]at this
  rcases this with h' | ⟨v',h',hlt⟩
  ·exact .asl b n k v0 v h' hle h1 hn
  ·exact .asl b n k v' v h' (by omega) h1 (fun hn=>by omega)
 | csl b o k n β c e h hc=>exact .csl b o k n β c e (C85 hg h) hc
 | csa b o k n kk c v x h hc hle hp =>
  have:=hg.L b;rw[h]at this
  rcases this with h' | ⟨v',h',hlt⟩
  ·exact .csa b o k n kk c v x h' hc hle hp
  ·exact .csa b o k n kk c v' x h' hc (by omega) (fun hn=>by omega)
 | mp b β h=>exact .mp b β (D7r hg h)
 | fn f f' a c a' c' hf l1 l2 h1 h2 ih1 ih2=>exact .fn f f' a c a' c' (hf.mono hg) l1 l2 ih1 ih2
 | xseq k rows a c vs hs hcap hlen h1 h2 h3 ih=>exact .xseq k rows a c vs hs hcap hlen (fun i r j x hi hj=>hg.Φ _ _ _ (h1 i r j x hi hj)) ih h3
 | agg cs vs hl h h1 ih=>exact .agg cs vs hl ih h1
 | tup cs vs hl h ih=>exact .tup cs vs hl ih
def bdE (N:Nat):List (AV×AV)→Bool
 | []=>true
 | e::l=>e.1.bd N&&e.2.bd N&&bdE N l
def AO.bd (N:Nat):AO→Bool
 | .dead|.iter _ _|.stk _ _ _=>true
 | .cells cs=>bdL N cs
 | .arr _ _ _=>true
 | .map es=>bdE N es
 | .loop _ s _ _ _ _ _=>A1m N s
 | .mit m _ _=>ZU m N
 | .ro o=>o.bd N
def D7 (g:Ghost) (s:C2) (tmps:Array Value):Prop :=
 ∀ t v,sget s t=some v→∃ x,tmps[t]? = some x∧V g v x
def B56:Ex→Option Code
 | .normal=>none
 | .exit id=>some (.exit id)
 | .ret=>some .ret
def A0c (MC:Nat→Code→ACode→Prop) (P:Program) (g:Ghost) (w:World):AO→GB→Prop
 | .dead,_=>True
 | .cells cs,.cells β e=>∃ c:Array Value,w.heap[β]? = some (.cells c e (0,0))∧c.size=cs.length ∧
   (∀ (j:Nat) (x:AV),cs[j]? = some x→∃ v,c[j]? = some v∧V g x v∧v.oneCell'=true)∧∀ o,g.Φ β o=none
 | .arr k pub rows,.arr k' v=>k'=k∧0<k∧(∀ r∈rows,r.length=k) ∧
   ((rows=[]∧v=.slice none 0 0)∨∃ (β c:Nat) (e:TypeId) (cur:Array Value),v=.slice (some ⟨β,0,none⟩) rows.length c∧rows.length≤c∧c≤maxLen ∧
    w.heap[β]? = some (.cells cur e (0,0))∧cur.size=c*k ∧
    (∀ (i:Nat) (r:List AV) (j:Nat) (x:AV),rows[i]? = some r→r[j]? = some x→∃ u,cur[i*k+j]? = some u∧Den g.Φ x u) ∧
    (pub=false→∀ o,g.Φ β o=none) ∧
    (pub=true→(∀ o,o<rows.length*k→g.Φ β o=cur[o]?)∧∀ o,rows.length*k≤o→g.Φ β o=none))
 | .stk k rows _,.arr k' v=>k'=k∧0<k∧(∀ r∈rows,r.length=k) ∧
   ((rows=[]∧v=.slice none 0 0)∨∃ (β c:Nat) (e:TypeId) (cur:Array Value),v=.slice (some ⟨β,0,none⟩) rows.length c∧rows.length≤c∧c≤maxLen ∧
    w.heap[β]? = some (.cells cur e (0,0))∧cur.size=c*k ∧
    (∀ (i:Nat) (r:List AV) (j:Nat) (x:AV),rows[i]? = some r→r[j]? = some x→∃ u,cur[i*k+j]? = some u∧Den g.Φ x u) ∧
    (false=false→∀ o,g.Φ β o=none) ∧
    (false=true→(∀ o,o<rows.length*k→g.Φ β o=cur[o]?)∧∀ o,rows.length*k≤o→g.Φ β o=none))
 | .map es,.map β=>∃ (en:Array MapEntry) (clock:Nat),w.heap[β]? = some (.map en clock)∧en.size=es.length ∧
   (∀ (i:Nat) (e:AV×AV),es[i]? = some e→∃ m:MapEntry,en[i]? = some m∧V g e.1 m.key∧V g e.2 m.val) ∧
   clock=en.size∧∀ (i:Nat) (m:MapEntry),en[i]? = some m→m.born=i
 | .mit m n seen,.iter β=>∃ βm,g.L m=.map βm∧w.heap[β]? = some (.mapIter (some βm) n seen.toArray n)
 | .iter s pos,.iter β=>w.heap[β]? = some (.stringIter s pos)
 | .loop _ s ps assign body busy pend,.loop β=>∃ r:Loop,w.heap[β]? = some (.loop r) ∧
   r.state=(if busy then .busy else if pend.isNone then .ready else .done)∧r.pending=pend.bind B56∧r.params=ps.toArray ∧
   D7 g s r.tmps∧MC r.tmps.size r.assign assign∧MC r.tmps.size r.body body∧∀ t∈ps,t<r.tmps.size
 | _,_=>False
def Shr (H:A2) (i j:Nat):Prop:=i<j∧∃ k rows anc rows' anc',hstk H j=some (k,rows,anc)∧i∈anc∧hstk H i=some (k,rows',anc')∧rows'.length<rows.length
structure Rel (MC:Nat→Code→ACode→Prop) (P:Program) (B0:Nat) (H:A2) (g:Ghost) (w:World):Prop where
 phi:∀β o v,g.Φ β o=some v→w.cell? ⟨β,o,none⟩=some v
 base:∀i β,(g.L i).blk=some β→B0≤β∧β<w.heap.size
 inj:∀i j β,(g.L i).blk=some β→(g.L j).blk=some β→i=j∨Shr H i j∨Shr H j i
 box:∀(i:Nat) (o:AO),H[i]? = some o→A0c MC P g w o.rd (g.L i)
 nolive:∀i,H.length≤i→g.L i=.none
 b0:B0≤w.heap.size
def Held (H:A2) (g:Ghost) (β:Nat):Prop:=∃ (j:Nat) (o:AO),H[j]? = some o∧o.isW=true∧(g.L j).blk=some β
structure Ext (H:A2) (g:Ghost) (w:World) (H':A2) (g':Ghost) (w':World):Prop where
 len:H.length≤H'.length
 os:w'.os=w.os
 tape:w'.tape=w.tape
 output:w'.output=w.output
 size:w.heap.size≤w'.heap.size
 le:g.le g'
 blk:∀i β,(g'.L i).blk=some β→(g.L i).blk=some β∨w.heap.size≤β∨Held H g β
 keep:∀(i:Nat) (o:AO),H[i]? = some o→o.isW=false→g.L i≠.none→g'.L i=g.L i
 wit:∀(i:Nat) (o':AO),H'[i]? = some o'→o'.isW=true→g.L i=.none∨∃ o,H[i]? = some o∧o.isW=true
 frame:∀β,β<w.heap.size→(∀ (i:Nat) (o:AO),H[i]? = some o→o.isW=true→(g.L i).blk≠some β)→w'.heap[β]? = w.heap[β]?∧∀ o,g'.Φ β o=g.Φ β o
theorem Ext.refl (H:A2) (g:Ghost) (w:World):Ext H g w H g w :=
 ⟨Zn _,Z,Z,Z,Zn _,Ghost.le_refl g,fun _ _ h=>.inl h,fun _ _ _ _ _=>rfl,fun i o h k=>.inr ⟨o,h,k⟩,fun _ _ _=>⟨Z,fun _=>rfl⟩⟩
theorem Ext.trans {H H1 H2:A2} {g g1 g2:Ghost} {w w1 w2:World} (h:Ext H g w H1 g1 w1) (k:Ext H1 g1 w1 H2 g2 w2):Ext H g w H2 g2 w2 where
 len:=Z01 h.len k.len
 os:=k.os.trans h.os
 tape:=k.tape.trans h.tape
 output:=k.output.trans h.output
 size:=Z01 h.size k.size
 le:=h.le.trans k.le
 blk:=fun i β hb=>by
  rcases k.blk i β hb with h1|h1|⟨j,o,hj,hw,hbj⟩
  ·exact h.blk i β h1
  ·exact .inr (.inl (Z01 h.size h1))
  ·rcases h.blk j β hbj with h2|h2|h2
   ·rcases h.wit j o hj hw with h3|⟨o2,h3,h4⟩
    ·rw[h3]at h2;simp[GB.blk]at h2
    ·exact .inr (.inr ⟨j,o2,h3,h4,h2⟩)
   ·exact .inr (.inl h2)
   ·exact .inr (.inr h2)
 keep:=fun i o ho hw hn=>by
  have e1:=h.keep i o ho hw hn
  obtain⟨o1,ho1⟩:∃o1,H1[i]? = some o1:= by
   have h1:=(Ze.1 ho).1
   have h2:=h.len
   exact⟨H1[i]'(by omega),Zm (by omega)⟩
  have hw1:o1.isW=false:= by
   cases hc:o1.isW with
   | false=>rfl
   | true =>
    rcases h.wit i o1 ho1 hc with h2|⟨o2,h2,h3⟩
    ·exact absurd h2 hn
    ·rw[ho]at h2;cases h2;rw[hw]at h3;cases h3
  rw[← e1]
  exact k.keep i o1 ho1 hw1 (by rw[e1];exact hn)
 wit:=fun i o' ho' hw'=>by
  rcases k.wit i o' ho' hw' with h1|⟨o1,ho1,hw1⟩
  ·left
   have:=h.le.L i;rw[h1]at this
   cases hg:g.L i <;> rw[hg]at this <;> simp[GB.le]at this ⊢
  ·exact h.wit i o1 ho1 hw1
 frame:=fun β hβ hn=>by
  obtain⟨e1,p1⟩:=h.frame β hβ hn
  have:=k.frame β (Z0m hβ h.size) (fun i o ho hw hb=>by
   rcases h.blk i β hb with h1|h1|⟨j,o2,h2,h3,h4⟩
   ·rcases h.wit i o ho hw with h2|⟨o2,h2,h3⟩
    ·rw[h2]at h1;simp[GB.blk]at h1
    ·exact hn i o2 h2 h3 h1
   ·omega
   ·exact hn j o2 h2 h3 h4)
  exact⟨this.1.trans e1,fun o=>(this.2 o).trans (p1 o)⟩
section
variable {MC:Nat→Code→ACode→Prop} {P:Program} {B0:Nat}
theorem D7.mono {g g':Ghost} (hg:g.le g') {s:C2} {tmps:Array Value} (h:D7 g s tmps):D7 g' s tmps :=
 fun t v hv=>let ⟨x,hx,hV⟩:=h t v hv;⟨x,hx,hV.mono hg⟩
theorem D4s {g:Ghost} {w:World} {k:Nat} {rows:List (List AV)} {q:List Nat} {gb:GB}:A0c MC P g w (.stk k rows q) gb=A0c MC P g w (.arr k false rows) gb:= by cases gb <;> rfl
theorem A0c.mono {g g':Ghost} {w w':World} (hg:g.le g') {o:AO} {gb:GB}
  (hb:∀β,gb.blk=some β→w'.heap[β]? = w.heap[β]?∧∀ o,g'.Φ β o=g.Φ β o) (h:A0c MC P g w o gb):A0c MC P g' w' o gb:= by
 cases o with
 | dead=>exact trivial
 | cells cs =>
  cases gb <;> try exact h.elim
  rename_i β e
  obtain⟨c,h1,h2,h3,h4⟩:=h
  obtain⟨e1,e2⟩:=hb β Z
  exact⟨c,e1.trans h1,h2,fun j x hj=>let ⟨v,hv,hV,ho⟩:=h3 j x hj;⟨v,hv,hV.mono hg,ho⟩,fun o=>(e2 o).trans (h4 o)⟩
 | arr k pub rows =>
  cases gb <;> try exact h.elim
  rename_i k' v
  obtain⟨h0,h2,h3,h4⟩:=h
  refine⟨h0,h2,h3,?_⟩
  rcases h4 with h4|⟨β,c,e,cur,rfl,h5,h6,h7,h8,h9,h10,h11⟩
  ·exact .inl h4
  ·obtain⟨e1,e2⟩:=hb β Z
   refine .inr ⟨β,c,e,cur,Z,h5,h6,e1.trans h7,h8,fun i r j x hi hj=>let ⟨u,hu,hd⟩:=h9 i r j x hi hj;⟨u,hu,hd.mono hg.Φ⟩,?_,?_⟩
   ·exact fun hp o=>(e2 o).trans (h10 hp o)
   ·exact fun hp=>⟨fun o ho=>(e2 o).trans ((h11 hp).1 o ho),fun o ho=>(e2 o).trans ((h11 hp).2 o ho)⟩
 | stk k rows par =>
  cases gb <;> try exact h.elim
  rename_i k' v
  obtain⟨h0,h2,h3,h4⟩:=h
  refine⟨h0,h2,h3,?_⟩
  rcases h4 with h4|⟨β,c,e,cur,rfl,h5,h6,h7,h8,h9,h10,h11⟩
  ·exact .inl h4
  ·obtain⟨e1,e2⟩:=hb β Z
   refine .inr ⟨β,c,e,cur,Z,h5,h6,e1.trans h7,h8,fun i r j x hi hj=>let ⟨u,hu,hd⟩:=h9 i r j x hi hj;⟨u,hu,hd.mono hg.Φ⟩,?_,?_⟩
   ·exact fun hp o=>(e2 o).trans (h10 hp o)
   ·exact fun hp=>⟨fun o ho=>(e2 o).trans ((h11 hp).1 o ho),fun o ho=>(e2 o).trans ((h11 hp).2 o ho)⟩
 | map es =>
  cases gb <;> try exact h.elim
  rename_i β
  obtain⟨en,clock,h1,h2,h3,h4⟩:=h
  exact⟨en,clock,(hb β Z).1.trans h1,h2,fun i e hi=>let ⟨m,hm,a,b⟩:=h3 i e hi;⟨m,hm,a.mono hg,b.mono hg⟩,h4⟩
 | mit m n seen =>
  cases gb <;> try exact h.elim
  rename_i β
  obtain⟨βm,h1,h2⟩:=h
  exact⟨βm,D7r hg h1,(hb β Z).1.trans h2⟩
 | iter s pos =>
  cases gb <;> try exact h.elim
  rename_i β
  exact(hb β Z).1.trans h
 | loop f s ps assign body busy pend =>
  cases gb <;> try exact h.elim
  rename_i β
  obtain⟨r,h1,h2,h3,h4,h5,h6⟩:=h
  exact⟨r,(hb β Z).1.trans h1,h2,h3,h4,h5.mono hg,h6⟩
 | ro o=>cases gb <;> exact h.elim
def J0 (L:Nat→GB) (i:Nat) (b:GB):Nat→GB:=fun j=>if j=i then b else L j
theorem C1t {H:A2} {i:Nat} {x:Nat×List (List AV)×List Nat} (h:hstk H i=some x):∃o,H[i]? = some o∧o.isS=true:= by
 unfold hstk hget at h
 split at h
 ·exact⟨_,by assumption,Z⟩
 ·exact⟨_,by assumption,Z⟩
 ·cases h
theorem E0l {o:AO} (h:o.isV=true):o.isS=false:= by cases o <;> first|rfl|cases h
theorem E0m {o:AO} (h:o.isV=true):o.isW=true:= by cases o <;> first|rfl|cases h
theorem B55 {H:A2} {i j:Nat} {o:AO} (h:j≠i):hstk (H.set i o) j=hstk H j:= by
 unfold hstk hget
 rw[ZJ,if_neg (fun e=>h e.symm)]
theorem Rel.alone {H:A2} {g:Ghost} {w:World} (h:Rel MC P B0 H g w) {i:Nat} (hi:∀o,H[i]? = some o→o.isS=false) {j β:Nat} (hj:(g.L j).blk=some β) (hb:(g.L i).blk=some β):j=i:= by
 rcases h.inj j i β hj hb with e|⟨_,_,_,_,_,_,e,_,_,_⟩|⟨_,_,_,_,_,_,_,_,e,_⟩
 ·exact e
 ·obtain⟨o,ho,hs⟩:=C1t e
  rw[hi o ho]at hs;cases hs
 ·obtain⟨o,ho,hs⟩:=C1t e
  rw[hi o ho]at hs;cases hs
theorem Shr.get {H H':A2} {j k:Nat} (hj:hstk H' j=hstk H j) (hk:hstk H' k=hstk H k) (h:Shr H j k):Shr H' j k:= by
 obtain⟨h0,k1,rows,anc,rows',anc',h1,h2,h3,h4⟩:=h
 exact⟨h0,k1,rows,anc,rows',anc',hk.trans h1,h2,hj.trans h3,h4⟩
theorem Shr.set {H:A2} {i j k:Nat} {o':AO} (hj:j≠i) (hk:k≠i) (h:Shr H j k):Shr (H.set i o') j k:=h.get (B55 hj) (B55 hk)
theorem Rel.upd {H:A2} {g:Ghost} {w w':World} (h:Rel MC P B0 H g w) {i:Nat} (hi:i<H.length) {o':AO} {gb':GB} {Φ':Nat→Nat→Option Value}
  (hV:(∃ o,H[i]? = some o∧o.isV=true)∨g.L i=.none)
  (hos:w'.os=w.os) (htape:w'.tape=w.tape) (hout:w'.output=w.output) (hsize:w.heap.size≤w'.heap.size)
  (hheap:∀β,β<w.heap.size→(g.L i).blk≠some β→w'.heap[β]? = w.heap[β]?)
  (hle:(g.L i).le gb') (hblk:∀β,gb'.blk=some β→((g.L i).blk=some β∨w.heap.size≤β)∧β<w'.heap.size)
  (hΦ:∀β o v,g.Φ β o=some v→Φ' β o=some v) (hΦ2:∀β,β<w.heap.size→(g.L i).blk≠some β→∀ o,Φ' β o=g.Φ β o)
  (hΦ3:∀β o v,Φ' β o=some v→w'.cell? ⟨β,o,none⟩=some v)
  (hbox:A0c MC P ⟨J0 g.L i gb',Φ',g.gl.mono hΦ⟩ w' o'.rd gb') :
  Rel MC P B0 (H.set i o') ⟨J0 g.L i gb',Φ',g.gl.mono hΦ⟩ w'∧Ext H g w (H.set i o') ⟨J0 g.L i gb',Φ',g.gl.mono hΦ⟩ w':= by
 have hg:g.le ⟨J0 g.L i gb',Φ',g.gl.mono hΦ⟩:= by
  refine⟨fun j=>?_,hΦ⟩
  simp only[J0]
  split
  ·next e=>subst e;exact hle
  ·exact GB.le_refl _
 have hW:(∃ o,H[i]? = some o∧o.isW=true)∨g.L i=.none:=hV.imp (fun⟨o,h1,h2⟩=>⟨o,h1,E0m h2⟩) id
 have hal:∀m β,(g.L m).blk=some β→(g.L i).blk=some β→m=i:= by
  intro m β h1 h2
  rcases hV with⟨o,h3,h4⟩|h3
  ·exact h.alone (fun o' ho'=>by rw[h3]at ho'; cases ho'; exact E0l h4) h1 h2
  ·rw[h3]at h2;simp[GB.blk]at h2
 have hother:∀j β,j≠i→(g.L j).blk=some β→w'.heap[β]? = w.heap[β]?∧∀ o,Φ' β o=g.Φ β o:= by
  intro j β hj hb
  have hlt:=(h.base j β hb).2
  have hne:(g.L i).blk≠some β:=fun e=>hj (hal j β hb e)
  exact⟨hheap β hlt hne,hΦ2 β hlt hne⟩
 refine⟨⟨hΦ3,?_,?_,?_,?_,Z01 h.b0 hsize⟩,⟨by simp,hos,htape,hout,hsize,hg,?_,?_,?_,?_⟩⟩
 ·intro j β hb
  simp only[J0]at hb
  split at hb
  ·obtain⟨h1,h2⟩:=hblk β hb
   rcases h1 with h1|h1
   ·exact⟨(h.base i β h1).1,h2⟩
   ·exact⟨Z01 h.b0 h1,h2⟩
  ·obtain⟨h1,h2⟩:=h.base j β hb
   exact⟨h1,Z0m h2 hsize⟩
 ·intro j k β hj hk
  simp only[J0]at hj hk
  have key:∀m,m≠i→gb'.blk=some β→(g.L m).blk=some β→False:= by
   intro m hm h1 h2
   rcases (hblk β h1).1 with h3|h3
   ·exact hm (hal m β h2 h3)
   ·have:=(h.base m β h2).2;omega
  split at hj <;> split at hk
  ·left;omega
  ·next e1 e2=>exact(key k e2 hj hk).elim
  ·next e1 e2=>exact(key j e1 hk hj).elim
  ·next e1 e2=>exact(h.inj j k β hj hk).imp id (Or.imp (fun q=>q.set e1 e2) (fun q=>q.set e2 e1))
 ·intro j o hj
  rw[ZJ]at hj
  by_cases e:i=j
  ·subst e
   rw[if_pos Z,if_pos hi]at hj
   cases hj
   simpa [J0] using hbox
  ·rw[if_neg e]at hj
   have hne:j≠i:=fun h=>e h.symm
   simp only[J0,if_neg hne]
   exact(h.box j o hj).mono hg (fun β hb=>hother j β hne hb)
 ·intro j hj
  have hne:j≠i:= by have:H.length≤j:= by simpa using hj
                    omega
  simp only[J0,if_neg hne]
  exact h.nolive j (by simpa using hj)
 ·intro j β hb
  simp only[J0]at hb
  split at hb
  ·next e=>subst e;exact(hblk β hb).1.imp id .inl
  ·exact .inl hb
 ·intro j o hj hw hn
  simp only[J0]
  split
  ·next e =>
   subst e
   rcases hW with⟨o2,h2,h3⟩|h2
   ·rw[hj]at h2;cases h2;rw[hw]at h3;cases h3
   ·exact absurd h2 hn
  ·rfl
 ·intro j o' hj hw
  rw[ZJ]at hj
  by_cases e:i=j
  ·subst e
   rcases hW with h2|h2
   ·exact .inr h2
   ·exact .inl h2
  ·rw[if_neg e]at hj
   exact .inr ⟨_,hj,hw⟩
 ·intro β hβ hn
  have hne:(g.L i).blk≠some β:= by
   rcases hW with⟨o2,h2,h3⟩|h2
   ·exact hn i o2 h2 h3
   ·rw[h2];simp[GB.blk]
  exact⟨hheap β hβ hne,hΦ2 β hβ hne⟩
end
def D7t (v w:Value):Bool :=
 match v with
 | .int k n=>(match w with|.int k' n'=>decide (k=k')&&decide (n=n')|_=>false)
 | .bool b=>(match w with|.bool b'=>b==b' | _=>false)
 | .string s=>(match w with|.string s'=>s.data.toList==s'.data.toList|_=>false)
 | .pointer a=>(match w with|.pointer b=>a.isNone&&b.isNone|_=>false)
 | .nilFunc=>(match w with|.nilFunc=>true|_=>false)
 | .map a=>(match w with|.map b=>a.isNone&&b.isNone|_=>false)
 | .nilIface=>(match w with|.nilIface=>true|_=>false)
 | _=>false
mutual
def matchV:AV→Value→Bool
 | .lit w,v=>D7t v w
 | .nils _,v=>(match v with|.slice a n c=>a.isNone&&n==0&&c==0|_=>false)
 | .seq _ rows,v=>rows.isEmpty&&(match v with|.slice a n c=>a.isNone&&n==0&&c==0|_=>false)
 | .agg l,v=>(match v with|.agg cs=>matchVs l cs.toList&&cs.toList.all Value.oneCell' | _=>false)
 | .tup l,v=>(match v with|.tuple cs=>matchVs l cs.toList|_=>false)
 | _,_=>false
def matchVs:List AV→List Value→Bool
 | [],l=>l.isEmpty
 | x::m,l=>(match l with|v::l=>matchV x v&&matchVs m l|[]=>false)
end
def D5:Operand→Opd→Bool
 | .tmp t,.t i=>t==i
 | .const v,.c x=>matchV x v
 | .global i,.c (.cptr cs)=>I4 cs (B50 i)==some true
 | .func f,.f i=>f==i
 | _,_=>false
def S0:List Operand→List Opd→Bool
 | [],[]=>true
 | x::l,y::m=>D5 x y&&S0 l m
 | _,_=>false
def A06:Option Operand→Option Opd→Bool
 | none,none=>true
 | some x,some y=>D5 x y
 | _,_=>false
def B7r (P:Program) (t:TypeId):Bool :=
 match P.underlying t with
 | some (.struct _)|some (.array _ _)=>true
 | _=>false
def known (P:Program) (t:TypeId):Bool:=(P.info? t).isSome&&(P.underlying t).isSome
def A55 (P:Program) (t:TypeId):Option Nat→Bool
 | none=>known P t&&!B7r P t
 | some k=>known P t&&B7r P t&&P.cellsOf t==k
def A1r (P:Program) (t:TypeId):Option TypeId :=
 match P.underlying t with
 | some (.slice e)=>some e
 | _=>none
def A9t (P:Program) (t:TypeId) (zs:List AV):Bool :=
 match (P.info? t).bind (·.zero) with
 | some z=>matchVs zs z.cells.toList&&P.cellsOf t==zs.length&&z.cells.toList.all Value.oneCell'
 | none=>false
def fieldAt? (P:Program) (t:TypeId) (f:Nat):Option Field :=
 match P.underlying t with
 | some (.struct fs)=>fs[f]?
 | _=>none
def X5 (P:Program) (t:TypeId):Option Nat :=
 match P.underlying t with
 | some (.int _)=>some 0
 | some .bool=>some 1
 | some .string=>some 2
 | _=>none
def A0q (P:Program):Nat→List Field→List Nat→Bool
 | _,[],[]=>true
 | i,f::fs,k::ks=>f.offset==i&&f.name != "_" && known P f.type&&X5 P f.type==some k&&A0q P (i+1) fs ks
 | _,_,_=>false
def B0t (P:Program) (t:TypeId) (ks:List Nat):Bool :=
 !P.eqGuardType P.depth t &&
 match P.underlying t with
 | some (.struct fs)=>!P.stoodInHeld t&&A0q P 0 fs.toList ks
 | some (.array m e)=>m==ks.length&&P.cellsOf e==1&&known P e&&ks.all fun k=>X5 P e==some k
 | _=>false
def B3a (P:Program):Nat→List Field→List Nat→Bool
 | _,[],[]=>true
 | _,[],_::_=>false
 | i,f::fs,ks=>f.offset==i&&f.name != "_" && (match X5 P f.type,ks with
  | some k,k'::ks'=>known P f.type&&k==k' && B3a P (i+1) fs ks'
  | some _,[]=>false
  | none,ks=>match P.underlying f.type with
   | some (.array n _)=>B0t P f.type (ks.take n)&&A55 P f.type (some n)&&(ZU 0 n&&ZH n ks.length)&&B3a P (i+n) fs (ks.drop n)
   | _=>false)
def C0b (P:Program) (t:TypeId) (ks:List Nat):Bool :=
 !P.eqGuardType P.depth t &&
 match P.underlying t with
 | some (.struct fs)=>!P.stoodInHeld t&&B3a P 0 fs.toList ks
 | _=>false
def B8z (P:Program) (t:TypeId) (ag:Bool) (ks:List Nat):Bool :=
 if ag then B0t P t ks else match ks with|[k]=>X5 P t==some k|_=>false
def F6:AOp→List Nat
 | .nil _ r|.box _ _ r|.mkmap r|.mkslice _ _ _ _ _ r|.range _ r|.rangeM _ r|.cut _ _ _ r|.storeN _ _ r=>[r]
 | .alloc _ owns r=>r::owns.map fun x=>x.2.1
 | .lits _ _ _ _ (some r)|.append _ _ _ _ (some r) _=>[r]
 | .call _ _ own _=>own.flatMap fun l=>l.map (·.2)
 | _=>[]
def B8c (P:Program) (fs:Array Field):List (Nat×Operand)→List (Nat×Nat×Opd)→Bool
 | [],[]=>true
 | x::l,y::m=>(match fs[x.1]? with|some f=>f.offset==y.1&&P.cellsOf f.type==y.2.1&&known P f.type|none=>false)&&D5 x.2 y.2.2&&B8c P fs l m
 | _,_=>false
def B8b (k:Nat):List (Nat×Operand)→List (Nat×Nat×Opd)→Bool
 | [],[]=>true
 | x::l,y::m=>x.1*k==y.1&&y.2.1==k&&D5 x.2 y.2.2&&B8b k l m
 | _,_=>false
def B46 (n:Nat):List (Nat×Operand)→List (Nat×Opd)→Bool
 | [],[]=>true
 | x::l,y::m=>x.1==y.1&&decide (x.1<n)&&D5 x.2 y.2&&B46 n l m
 | _,_=>false
def D3v:Fn→Fn→Bool
 | .func a,.func b=>a==b
 | _,_=>false
def D1 (P:Program) (o:Op):AOp→Bool
 | .mv y=>match o with
  | .move x|.assign x=>D5 x y
  | .call { callee:=.builtin .len,args,argTypes }=>match y,args.toList,argTypes.toList with
   | .c (.lit (.int .i64 n)),[_],[t]=>(match P.underlying t with|some (.array m _)=>decide ((m:Int)=n)|_=>false)
   | _,_,_=>false
  | _=>false
 | .mvz y=>match o with
  | .move x|.assign x=>D5 x y
  | _=>false
 | .nil k _=>match o with
  | .move x|.assign x=>(match x with|.const (.slice none 0 0)=>true|_=>false)&&decide (0<k)
  | _=>false
 | .pick c' a' b'=>match o with
  | .pick c a b=>D5 c c' && D5 a a' && D5 b b'
  | _=>false
 | .alloc zs owns _=>match o with
  | .alloc e=>A9t P e zs&&(owns.all fun x=>decide (0<x.2.2)&&(match zs[x.1]? with|some (.nils _)=>true|_=>false))&&decide (0<zs.length)
  | _=>false
 | .box n y _=>match o with
  | .box _ x=>D5 x y&&decide (0<n)
  | _=>false
 | .build z ps'=>match o with
  | .build e ps=>A9t P e z &&
   match P.underlying e with
   | some (.struct fs)=>(fs.toList.all fun f=>known P f.type)&&B8c P fs ps.toList ps'
   | some (.array _ e')=>known P e' && B8b (P.cellsOf e') ps.toList ps'
   | _=>false
  | _=>false
 | .lits k z n' ps' _|.xlits k z n' ps'=>match o with
  | .buildSlice t n ps=>match A1r P t with
   | some e=>P.cellsOf e==k&&A9t P e z&&n==n' && decide (0<k)&&decide (n*k≤2 ^ 24)&&B46 n ps.toList ps'
   | none=>false
  | _=>false
 | .load k y=>match o with
  | .load t x=>A55 P t k&&D5 x y
  | _=>false
 | .storeN a' k _=>match o with
  | .store t a v=>known P t&&P.cellsOf t==1&&decide (0<k)&&D5 a a' && (match v with|.const (.slice none 0 0)=>true|_=>false)
  | _=>false
 | .store k a' v'=>match o with
  | .store t a v=>known P t&&P.cellsOf t==k&&decide (0<k)&&D5 a a' && D5 v v'
  | _=>false
 | .nilck y=>match o with
  | .nilCheck x=>D5 x y
  | _=>false
 | .bin op' x' y'=>match o with
  | .binOp op _ x y _=>op==op' && D5 x x' && D5 y y'
  | _=>false
 | .beq neg x' y'=>match o with
  | .binOp op t x y _=>op==(if neg then .neq else .eql)&&(match P.underlying t with|some .bool=>true|_=>false)&&D5 x x' && D5 y y'
  | _=>false
 | .cmp neg ks x' y'=>match o with
  | .binOp op t x y _=>op==(if neg then .neq else .eql)&&(B0t P t ks||C0b P t ks)&&D5 x x' && D5 y y'
  | _=>false
 | .un op' y=>match o with
  | .unOp op _ x=>op==op' && D5 x y
  | _=>false
 | .conv k y=>match o with
  | .convert src dst x=>(P.underlying src).isSome&&(match P.underlying dst with|some (.int k')=>k==k' | _=>false)&&D5 x y
  | _=>false
 | .idc y=>match o with
  | .convert src dst x=>(P.underlying src).isSome&&(match P.underlying dst with|some .string=>true|_=>false)&&D5 x y
  | _=>false
 | .mkfn f' a' c'=>match o with
  | .makeFunc f a c=>D3v f f' && S0 a.toList a' && S0 c.toList c'
  | _=>false
 | .mkmap _=>match o with
  | .makeMap _ none=>true
  | _=>false
 | .mkslice k by_ z l' c' _=>match o with
  | .makeSlice t l c=>match A1r P t with
   | some e=>P.cellsOf e==k&&P.bytesOf e==by_&&A9t P e z&&decide (0<k)&&D5 l l' && D5 c c'
   | none=>false
  | _=>false
 | .sliceS y lo' hi'=>match o with
  | .slice t x lo hi none=>(match P.underlying t with|some .string=>true|_=>false)&&D5 x y&&A06 lo lo' && A06 hi hi'
  | _=>false
 | .sliceL k y lo' hi'=>match o with
  | .slice t x lo hi none=>(match A1r P t with|some e=>P.cellsOf e==k&&known P e&&decide (0<k)|none=>false)&&D5 x y&&A06 lo lo' && A06 hi hi'
  | _=>false
 | .sliceQ k y lo' hi'=>match o with
  | .slice t x lo hi none=>(match A1r P t with|some e=>P.cellsOf e==k&&known P e&&decide (0<k)|none=>false)&&D5 x y&&A06 lo lo' && A06 hi hi'
  | _=>false
 | .cut k y hi' _=>match o with
  | .slice t x none hi none=>(match A1r P t with|some e=>P.cellsOf e==k&&known P e&&decide (0<k)|none=>false)&&D5 x y&&A06 hi hi'
  | _=>false
 | .sub k y lo' hi'=>match o with
  | .slice t x lo hi none=>(match A1r P t with|some e=>P.cellsOf e==k&&known P e&&decide (0<k)|none=>false)&&D5 x y&&A06 lo lo' && A06 hi hi'
  | _=>false
 | .clear k z x=>match o with
  | .call { callee:=.builtin .clear,args,argTypes }=>match args.toList,argTypes.toList with
   | [x'],[t]=>(match A1r P t with|some e=>P.cellsOf e==k&&A9t P e z&&decide (0<k)|none=>false)&&D5 x' x
   | _,_=>false
  | _=>false
 | .sliceA k n y hi'=>match o with
  | .slice t x none hi none=>(match P.underlying t with|some (.array m e)=>m==n&&P.cellsOf e==k&&known P e&&decide (0<k)|_=>false)&&D5 x y&&A06 hi hi'
  | _=>false
 | .nilq neg x'=>match o with
  | .binOp op t x (.const (.slice none 0 0)) _=>op==(if neg then .neq else .eql)&&(match P.underlying t with|some (.slice _)=>true|_=>false)&&D5 x x'
  | _=>false
 | .fieldAddr off y=>match o with
  | .fieldAddr t x f=>(match fieldAt? P t f with|some fl=>fl.offset==off&&known P fl.type&&decide (0<P.cellsOf fl.type)|none=>false)&&D5 x y
  | _=>false
 | .field k off y=>match o with
  | .field t x f=>(match fieldAt? P t f with|some fl=>fl.offset==off&&A55 P fl.type k|none=>false)&&D5 x y
  | _=>false
 | .idxS k x' i'=>match o with
  | .indexAddr t x i=>(match A1r P t with|some e=>P.cellsOf e==k&&known P e&&decide (0<k)|none=>false)&&D5 x x' && D5 i i'
  | _=>false
 | .idxA k n x' i'=>match o with
  | .indexAddr t x i=>(match P.underlying t with|some (.array m e)=>m==n&&P.cellsOf e==k&&known P e&&decide (0<k)|_=>false)&&D5 x x' && D5 i i'
  | _=>false
 | .idxStr x' i'=>match o with
  | .index t x i=>(match P.underlying t with|some .string=>true|_=>false)&&D5 x x' && D5 i i'
  | _=>false
 | .idxAgg k sz n x' i'=>match o with
  | .index t x i=>(match P.underlying t with|some (.array m e)=>m==n&&P.cellsOf e==sz&&A55 P e k|_=>false)&&D5 x x' && D5 i i'
  | _=>false
 | .lookup z ag ks m' i' ok'=>match o with
  | .lookup t m i ok=>(match P.underlying t with|some (.map kt et)=>B8z P kt ag ks&&(match (P.info? et).bind (·.zero) with|some zv=>matchV z zv|none=>false)|_=>false)&&ok==ok' && D5 m m' && D5 i i'
  | _=>false
 | .mupd ag ks m' k' v'=>match o with
  | .mapUpdate t m k v=>(match P.underlying t with|some (.map kt _)=>B8z P kt ag ks|_=>false)&&D5 m m' && D5 k k' && D5 v v'
  | _=>false
 | .range y _=>match o with
  | .range t x=>(match P.underlying t with|some .string=>true|_=>false)&&D5 x y
  | _=>false
 | .rangeM y _=>match o with
  | .range t x=>(match P.underlying t with|some (.map _ _)=>true|_=>false)&&D5 x y
  | _=>false
 | .next y=>match o with
  | .next x str=>str&&D5 x y
  | _=>false
 | .entry y=>match o with
  | .entry x=>D5 x y
  | _=>false
 | .extract y j=>match o with
  | .extract x i=>i==j&&D5 x y
  | _=>false
 | .lenS y=>match o with
  | .call { callee:=.builtin .len,args,argTypes }=>match args.toList,argTypes.toList with
   | [x],[t]=>(match P.underlying t with|some .string=>true|_=>false)&&D5 x y
   | _,_=>false
  | _=>false
 | .lenL y=>match o with
  | .call { callee:=.builtin .len,args,argTypes }=>match args.toList,argTypes.toList with
   | [x],[t]=>(match P.underlying t with|some (.slice _)=>true|_=>false)&&D5 x y
   | _,_=>false
  | _=>false
 | .lenM y=>match o with
  | .call { callee:=.builtin .len,args,argTypes }=>match args.toList,argTypes.toList with
   | [x],[t]=>(match P.underlying t with|some (.map _ _)=>true|_=>false)&&D5 x y
   | _,_=>false
  | _=>false
 | .mm mx ys=>match o with
  | .call { callee:=.builtin .max,args,.. }=>mx&&S0 args.toList ys
  | .call { callee:=.builtin .min,args,.. }=>!mx&&S0 args.toList ys
  | _=>false
 | .append k by_ d x _ _=>match o with
  | .call { callee:=.builtin .append,args,argTypes }=>match args.toList,argTypes.toList with
   | [d',x'],[t,u]=>(match A1r P t,A1r P u with|some e,some _=>P.cellsOf e==k&&P.bytesOf e==by_&&decide (0<k)&&(match (P.info? e).bind (·.zero) with|some z=>z.cells.size==k|none=>false)|_,_=>false)&&D5 d' d&&D5 x' x
   | _,_=>false
  | _=>false
 | .copy k d x=>match o with
  | .call { callee:=.builtin .copy,args,argTypes }=>match args.toList,argTypes.toList with
   | [d',x'],[t,_]=>(match A1r P t with|some e=>P.cellsOf e==k&&known P e&&decide (0<k)|none=>false)&&D5 d' d&&D5 x' x
   | _,_=>false
  | _=>false
 | .call f' args' _ _=>match o with
  | .call { callee:=.value f,args,.. }=>D5 f f' && S0 args.toList args'
  | _=>false
theorem Den.one {Φ:Nat→Nat→Option Value} {x:AV} {v:Value} (h:Den Φ x v):v.oneCell'=true:= by
 cases h <;> first|assumption|rfl
theorem D7u {v w:Value} (h:D7t v w=true):v=w∧w.oneCell'=true:= by
 cases v <;> cases w <;> simp[D7t]at h
 ·subst h;exact⟨Z,Z⟩
 ·obtain⟨rfl,rfl⟩:=h;exact⟨Z,Z⟩
 ·rename_i s s'
  obtain⟨⟨a⟩⟩:=s;obtain⟨⟨b⟩⟩:=s'
  simp at h;subst h;exact⟨Z,Z⟩
 ·obtain⟨rfl,rfl⟩:=h;exact⟨Z,Z⟩
 ·obtain⟨rfl,rfl⟩:=h;exact⟨Z,Z⟩
 ·exact⟨Z,Z⟩
 ·exact⟨Z,Z⟩
mutual
theorem matchV_V (g:Ghost):(x:AV)→(v:Value)→matchV x v=true→V g x v
 | .lit w,v,h=>by
  simp only[matchV]at h
  obtain⟨rfl,h1⟩:=D7u h
  exact .den _ _ (.lit _ h1)
 | .nils k,v,h=>by
  cases v <;> simp[matchV]at h
  obtain⟨⟨rfl,rfl⟩,rfl⟩:=h
  exact .den _ _ (.nils k)
 | .agg l,v,h=>by
  cases v <;> simp[matchV]at h
  rename_i cs
  obtain⟨h1,h2⟩:=h
  have:=matchVs_V g l cs.toList h1
  refine .agg l cs (by simpa using this.1) (fun j x hj=>by simpa [Z4b] using this.2 j x hj) (fun j x hj=>?_)
  have hlt:j<cs.size:= by have h1:=(Ze.1 hj).1;have h2:=this.1;simp at h2;omega
  simpa [hlt] using h2 j hlt
 | .tup l,v,h=>by
  cases v <;> simp[matchV]at h
  rename_i cs
  have:=matchVs_V g l cs.toList h
  exact .tup l cs (by simpa using this.1) (fun j x hj=>by simpa [Z4b] using this.2 j x hj)
 | .seq k rows,v,h=>by
  simp only[matchV,Zc,List.isEmpty_iff]at h
  obtain⟨rfl,h⟩:=h
  cases v <;> simp at h
  obtain⟨⟨rfl,rfl⟩,rfl⟩:=h
  exact .den _ _ (.seq0 k _ _)
 | .xseq _ _,v,h=>by simp[matchV]at h
 | .ptr _ _,v,h=>by simp[matchV]at h
 | .itr _,v,h=>by simp[matchV]at h
 | .eptr _ _ _ _,v,h=>by simp[matchV]at h
 | .cptr _,v,h=>by simp[matchV]at h
 | .asl _ _,v,h=>by simp[matchV]at h
 | .csl _ _ _ _,v,h=>by simp[matchV]at h
 | .mp _,v,h=>by simp[matchV]at h
 | .fn _ _ _,v,h=>by simp[matchV]at h
 | .fresh _ _,v,h=>by simp[matchV]at h
 | .undef,v,h=>by simp[matchV]at h
theorem matchVs_V (g:Ghost):(m:List AV)→(l:List Value)→matchVs m l=true→l.length=m.length∧∀ j x,m[j]? = some x→V g x (l.getD j undef)
 | [],l,h=>by cases l <;> simp[matchVs]at h;exact⟨Z,fun j x h=>by simp at h⟩
 | x::m,l,h=>by
  cases l with
  | nil=>simp[matchVs]at h
  | cons v l =>
   simp[matchVs]at h
   have h1:=matchV_V g x v h.1
   obtain⟨h2,h3⟩:=matchVs_V g m l h.2
   refine⟨by simp[h2],fun j y hj=>?_⟩
   cases j with
   | zero=>simp at hj;subst hj;simpa using h1
   | succ j=>simp at hj;simpa using h3 j y hj
end
theorem E4p (g:Ghost) (f:Nat):V g (.fn (.func f) [] []) (.func (.func f) #[] #[]) :=
 .fn _ _ _ _ _ _ Z Z Z (fun j x h=>by simp at h) (fun j x h=>by simp at h)
section
variable {g:Ghost} {s:C2} {a:Act}
theorem D62 {x y:AV} (h:A4s x y=some true):x=y:= by
 unfold A4s at h
 split at h
 ·split at h
  ·next e=>subst e;simp at h;rw[h]
  ·cases h
 ·simp at h;rw[h]
 ·simp at h
  next a b =>
  have:a=b:= by
   cases a with|mk a=>cases b with|mk b =>
   have h:a=b:=h
   rw[h]
  rw[this]
 ·cases h
theorem C4s:∀{l m:List AV},I4 l m=some true→l=m
 | [],[],_=>rfl
 | x::l,y::m,h=>by
  simp only[I4]at h
  split at h
  ·next e=>rw[D62 e,C4s h]
  ·cases h
  ·cases h
 | [],_::_,h=>by simp[I4]at h
 | _::_,[],h=>by simp[I4]at h
theorem E2g (g:Ghost) (i:Nat):V g (.cptr (B50 i)) (.pointer (some ⟨i,0,none⟩)):= by
 refine .cptr _ _ (fun j=>(g.Φ i j).getD undef) Z (fun j x hj=>?_) (fun j x hj=>?_) (fun j x hj=>?_)
 all_goals
  obtain⟨v,rfl,h2,h3⟩:=g.gl i j x hj
  simp only[Z1d,h3,ZW]
 ·exact .den _ _ (.lit v h2)
 ·exact h2
theorem L6 (hS:D7 g s a.tmps) {x:Operand} {y:Opd} (hm:D5 x y=true) {v:AV} (h:ev s y=some v):V g v (a.eval x):= by
 cases x <;> cases y <;> simp[D5]at hm
 ·subst hm
  obtain⟨u,hu,hV⟩:=hS _ _ h
  simpa [Act.eval,hu] using hV
 ·simp[ev]at h;subst h;exact matchV_V g _ _ hm
 ·simp[ev]at h;subst h
  split at hm
  all_goals first
   | (cases hm;done)
   | (next e1 e2=>cases e1;done)
   | skip
  next e1 e2 =>
  cases e1;cases e2
  have:=C4s (by simpa using hm)
  rw[this];exact E2g g _
 ·simp[ev]at h;subst hm;subst h;exact E4p g _
theorem C4t (hS:D7 g s a.tmps):∀{xs:List Operand} {ys:List Opd} (hm:S0 xs ys=true) {vs:List AV} (h:evs s ys=some vs),
  vs.length=xs.length∧∀ j v,vs[j]? = some v→V g v ((xs.map a.eval).getD j undef)
 | [],[],_,vs,h=>by simp[evs]at h;subst h;exact⟨Z,fun j v h=>by simp at h⟩
 | [],_::_,hm,_,_=>by simp[S0]at hm
 | _::_,[],hm,_,_=>by simp[S0]at hm
 | x::xs,y::ys,hm,vs,h=>by
  simp only[S0,Zc]at hm
  simp only[evs]at h
  cases hv:ev s y with
  | none=>simp[hv]at h
  | some v =>
   cases hvs:evs s ys with
   | none=>simp[hv,hvs]at h
   | some l =>
    simp[hv,hvs]at h;subst h
    obtain⟨h1,h2⟩:=C4t hS hm.2 hvs
    refine⟨by simp[h1],fun j u hj=>?_⟩
    cases j with
    | zero=>simp at hj;subst hj;simpa using L6 hS hm.1 hv
    | succ j=>simp at hj;simpa using h2 j u hj
theorem S5 {v w:Value} (h:V g (.lit v) w):w=v:= by
 cases h with|den _ _ h=>cases h;rfl
end
def Gives (r:Result Next) (x:Value) (w:World):Prop:=r=.ok (.value x) w∨(r=.ok .skip w∧x=undef)
theorem C0y (g:Ghost):V g (.tup []) undef:=.tup [] #[] rfl (fun j x h=>by simp at h)
section
variable {MC:Nat→Code→ACode→Prop} {P:Program} {B0:Nat} {H:A2} {g:Ghost} {w:World}
theorem D42 {b:Nat} {cs:List AV} (h:hcells H b=some cs):∃o,H[b]? = some o∧o.rd=.cells cs:= by
 unfold hcells hget at h
 split at h <;> simp at h
 ·subst h;exact⟨_,‹_›,Z⟩
 ·subst h;exact⟨_,‹_›,Z⟩
theorem E0e {b:Nat} {r:Nat×Bool×List (List AV)} (h:harr H b=some r):∃o,H[b]? = some o∧o.rd=.arr r.1 r.2.1 r.2.2:= by
 unfold harr hget at h
 split at h <;> simp at h
 ·subst h;exact⟨_,‹_›,Z⟩
 ·subst h;exact⟨_,‹_›,Z⟩
theorem D3h {b:Nat} {r:Nat×List (List AV)×List Nat} (h:hstk H b=some r):∃o,H[b]? = some o∧o.rd=.stk r.1 r.2.1 r.2.2:= by
 unfold hstk hget at h
 split at h <;> simp at h
 ·subst h;exact⟨_,‹_›,Z⟩
 ·subst h;exact⟨_,‹_›,Z⟩
theorem D47 {b:Nat} {r:Nat×List (List AV)×List Nat} (h:B53 H b=some r):H[b]? = some (.stk r.1 r.2.1 r.2.2):= by
 unfold B53 hget at h
 split at h <;> simp at h
 subst h;assumption
theorem E0g {b:Nat} {es:List (AV×AV)} (h:hmap H b=some es):∃o,H[b]? = some o∧o.rd=.map es:= by
 unfold hmap hget at h
 split at h <;> simp at h
 ·subst h;exact⟨_,‹_›,Z⟩
 ·subst h;exact⟨_,‹_›,Z⟩
theorem V6 {b:Nat} {cs:List AV} (h:X2 H b=some cs):H[b]? = some (.cells cs):= by
 unfold X2 hget at h
 split at h <;> simp at h
 subst h;assumption
theorem A1a {b:Nat} {r:Nat×Bool×List (List AV)} (h:A05 H b=some r):H[b]? = some (.arr r.1 r.2.1 r.2.2):= by
 unfold A05 hget at h
 split at h <;> simp at h
 subst h;assumption
theorem C5d {b:Nat} {es:List (AV×AV)} (h:B18 H b=some es):H[b]? = some (.map es):= by
 unfold B18 hget at h
 split at h <;> simp at h
 subst h;assumption
theorem Rel.cells (hR:Rel MC P B0 H g w) {b:Nat} {cs:List AV} (h:hcells H b=some cs):∃β e,g.L b=.cells β e∧A0c MC P g w (.cells cs) (.cells β e):= by
 obtain⟨o,h1,h2⟩:=D42 h
 have:=hR.box b o h1
 rw[h2]at this
 cases hL:g.L b <;> rw[hL]at this <;> first|exact this.elim|exact⟨_,_,Z,this⟩
theorem Rel.arr (hR:Rel MC P B0 H g w) {b k:Nat} {p:Bool} {rows:List (List AV)} (h:harr H b=some (k,p,rows)):∃v,g.L b=.arr k v∧A0c MC P g w (.arr k p rows) (.arr k v):= by
 obtain⟨o,h1,h2⟩:=E0e h
 have:=hR.box b o h1
 rw[h2]at this
 cases hL:g.L b <;> rw[hL]at this <;> try exact this.elim
 obtain⟨rfl,h3⟩:=this
 exact⟨_,Z,Z,h3⟩
theorem Rel.stk (hR:Rel MC P B0 H g w) {b k:Nat} {q:List Nat} {rows:List (List AV)} (h:hstk H b=some (k,rows,q)):∃v,g.L b=.arr k v∧A0c MC P g w (.arr k false rows) (.arr k v):= by
 obtain⟨o,h1,h2⟩:=D3h h
 have:=hR.box b o h1
 rw[h2,D4s]at this
 cases hL:g.L b <;> rw[hL]at this <;> try exact this.elim
 obtain⟨rfl,h3⟩:=this
 exact⟨_,Z,Z,h3⟩
theorem Rel.map (hR:Rel MC P B0 H g w) {b:Nat} {es:List (AV×AV)} (h:hmap H b=some es):∃β,g.L b=.map β∧A0c MC P g w (.map es) (.map β):= by
 obtain⟨o,h1,h2⟩:=E0g h
 have:=hR.box b o h1
 rw[h2]at this
 cases hL:g.L b <;> rw[hL]at this <;> first|exact this.elim|exact⟨_,Z,this⟩
def Holds (g:Ghost) (w:World) (p:Addr) (cs:List AV):Prop :=
 p.spot=none∧∀ (j:Nat) (x:AV),cs[j]? = some x→∃ v,w.cell? ⟨p.block,p.off+j,none⟩=some v∧V g x v∧v.oneCell'=true
theorem B2s (hR:Rel MC P B0 H g w) {p:AV} {cs:List AV} (h:H6 H p=some cs) {v:Value} (hV:V g p v) (hne:cs≠[]) :
  ∃ a,v=.pointer (some a)∧Holds g w a cs:= by
 cases p <;> simp only[H6]at h <;> try (simp at h;done)
 ·rename_i b o
  cases hc:hcells H b with
  | none=>simp[hc]at h
  | some l =>
   simp[hc]at h;subst h
   obtain⟨β,e,hL,c,h1,h2,h3,h4⟩:=hR.cells hc
   cases hV with
   | den _ _ hd=>cases hd
   | ptr _ _ β' e' hL' =>
    rw[hL]at hL'; cases hL'
    refine⟨_,Z,Z,fun j x hj=>?_⟩
    rw[ZV]at hj
    obtain⟨v,hv,hV',ho⟩:=h3 _ _ hj
    exact⟨v,by simpa [World.cell?,h1] using hv,hV',ho⟩
 ·rename_i b n i o
  cases hc:harr H b with
  | none=>simp[hc]at h
  | some r =>
   obtain⟨k,pb,rows⟩:=r
   simp only[hc]at h
   by_cases hn:ZC rows.length n=true
   ·simp only[hn,if_true]at h
    have hn':rows.length=n:=Zk hn
    cases hr:rows[i]? with
    | none=>simp[hr]at h
    | some r =>
     simp[hr]at h;subst h
     obtain⟨v0,hL,_,hk,hlen,hv0⟩:=hR.arr hc
     cases hV with
     | den _ _ hd=>cases hd
     | eptr _ _ _ _ k' v' p' hL' hle hp =>
      rw[hL]at hL'; cases hL'
      rcases hv0 with⟨h0,_⟩|⟨β,c,e,cur,hv,h5,h6,h7,h8,h9,_⟩
      ·subst h0;simp at hr
      ·subst hv
       obtain⟨β',c',e1,e2⟩:=hp (by simpa [slen] using hn')
       cases e1
       refine⟨_,Z,by rw[e2],fun j x hj=>?_⟩
       rw[ZV]at hj
       obtain⟨u,hu,hd⟩:=h9 _ _ _ _ hr hj
       refine⟨u,?_,.den _ _ hd,hd.one⟩
       subst e2
       simp[World.cell?,h7]
       rw[show i*k+o+j=i*k+(o+j) by omega]
       exact hu
   ·simp[hn]at h
 ·rename_i l
  simp at h;subst h
  cases hV with
  | den _ _ hd=>cases hd
  | cptr _ a vs hs h1 h2 h3 =>
   exact⟨a,Z,hs,fun j x hj=>⟨vs j,hR.phi _ _ _ (h1 j x hj),h2 j x hj,h3 j x hj⟩⟩
theorem B0h {t:TypeId} (h:(P.underlying t).isSome=true) (w:World):(isAgg t).run P w=.ok (B7r P t) w:= by
 obtain⟨d,hd⟩:=Z0q.1 h
 simp only[isAgg,Sem.run_bind,run_underlying hd,Result.andThen_ok,B7r,hd]
 cases d <;> rfl
theorem M4 {t:TypeId} (h:(P.info? t).isSome=true) (w:World):(Go.sizeOf t).run P w=.ok (P.cellsOf t) w:= by
 obtain⟨i,hi⟩:=Z0q.1 h
 simp[Go.sizeOf,typeInfo,Program.cellsOf,hi]
theorem M3 {t:TypeId} (h:known P t=true):(P.info? t).isSome=true:= by simp[known]at h;exact h.1
theorem A94 {t:TypeId} (h:known P t=true):(P.underlying t).isSome=true:= by simp[known]at h;exact h.2
theorem Holds.add {p:Addr} {cs:List AV} (h:Holds g w p cs) (n:Nat):∀(j:Nat) (x:AV),(cs.drop n)[j]? = some x→∃ v,w.cell? ((p.add n).add j)=some v∧V g x v∧v.oneCell'=true:= by
 intro j x hj
 rw[ZV]at hj
 obtain⟨v,hv,r⟩:=h.2 _ _ hj
 refine⟨v,?_,r⟩
 obtain⟨pb,po,ps⟩:=p
 have hs:ps=none:=h.1
 subst hs
 have e1:((⟨pb,po,none⟩:Addr).add n).add j=⟨pb,po+(n+j),none⟩:= by
  unfold Addr.add;split <;> split <;> simp_all <;> omega
 rw[e1];exact hv
def A6s:Option Nat→List AV→AV
 | none,cs=>cs.headD default
 | some k,cs=>.agg (cs.take k)
theorem A89 {t:TypeId} {k:Option Nat} (ht:A55 P t k=true) {p:Addr} {cs:List AV} (h:Holds g w p cs) (hl:k.getD 1≤cs.length) :
  ∃ x,(loadVar t p).run P w=.ok x w∧V g (A6s k cs) x:= by
 have hadd:=h.add 0
 obtain⟨pb,po,ps⟩:=p
 have hs:ps=none:=h.1
 subst hs
 cases k with
 | none =>
  simp[A55]at ht
  cases cs with
  | nil=>simp at hl
  | cons x l =>
   obtain⟨v,hv,hV,_⟩:=h.2 0 x Z
   refine⟨v,?_,by simpa [A6s] using hV⟩
   simp only[loadVar,Sem.run_bind,B0h (A94 ht.1),ht.2,Result.andThen_ok,Zj,if_false,run_load]
   simp only[Z1e]at hv
   simp[hv]
 | some k =>
  simp[A55]at ht
  simp at hl
  obtain⟨⟨hk,ha⟩,hc⟩:=ht
  have hex:∀j:Nat,∃ v,j<k→(w.cell? ((⟨pb,po,none⟩:Addr).add j)=some v∧(∀ x,cs[j]? = some x→V g x v∧v.oneCell'=true)):= by
   intro j
   by_cases hj:j<k
   ·obtain⟨v,hv,r⟩:=hadd j (cs[j]'(by omega)) (by simp[Zm (show j<cs.length by omega)])
    refine⟨v,fun _=>⟨by simpa [Addr.add] using hv,fun x hx=>?_⟩⟩
    rw[Zm (by omega)]at hx
    cases hx;exact r
   ·exact⟨undef,fun h=>absurd h hj⟩
  obtain⟨f,hf⟩:=Classical.axiomOfChoice hex
  refine⟨.agg ((Z04 k).map f).toArray,?_,?_⟩
  ·simp only[loadVar,Sem.run_bind,B0h (A94 hk),ha,Result.andThen_ok,if_true,M4 (M3 hk),hc,run_loadCells w _ k f (fun j hj=>(hf j hj).1)]
   rfl
  ·simp only[A6s]
   have hlk:(cs.take k).length=k:= by simp;omega
   refine .agg _ _ (by simp;omega) (fun j x hj=>?_) (fun j x hj=>?_)
   all_goals
    have hjk:j<k:= by have:=(Ze.1 hj).1;omega
    rw[ZO hjk]at hj
    have:=(hf j hjk).2 x hj
    simp[hjk]
   ·exact this.1
   ·exact this.2
end
section
variable {MC:Nat→Code→ACode→Prop} {P:Program} {B0:Nat} {c:Sc} {n0:Nat} {H H':A2} {g:Ghost} {w:World} {s:C2} {a:Act} {o:Oper} {v:AV}
def Still (P:Program) (a:Act) (o:Oper) (w:World) (g:Ghost) (v:AV) (H H':A2):Prop :=
 H'=H∧∃ x,(execOp a.eval o).run P w=.ok (.value x) w∧V g v x
theorem E8p {y:Opd} (hm:D1 P o.op (.mv y)=true) (hS:D7 g s a.tmps) (h:prim c n0 s H (.mv y)=some (v,H')):Still P a o w g v H H':= by
 simp only[D1]at hm
 cases he:ev s y with
 | none=>simp[prim,he]at h
 | some u =>
  simp[prim,he]at h
  obtain⟨rfl,rfl⟩:=h
  refine⟨Z,?_⟩
  split at hm
  ·next x hop=>exact⟨_,by simp[execOp,hop],L6 hS hm he⟩
  ·next x hop=>exact⟨_,by simp[execOp,hop],L6 hS hm he⟩
  ·next args argTypes hop =>
   split at hm
   ·next n x t h1 h2 =>
    split at hm
    ·next m e hu =>
     simp at hm
     simp[ev]at he
     subst he
     have ea:argTypes[0]? = some t:= by rw[← Z0j,h2];rfl
     have eb:(args.map a.eval)[0]? = some (a.eval x):= by rw[Z28,← Z0j,h1];rfl
     refine⟨.int .i64 n,?_,.den _ _ (.lit _ Z)⟩
     simp[execOp,hop,resolve,invoke,builtin,Builtin.len_,ea,eb,run_underlying hu,goInt,hm]
    ·cases hm
   ·cases hm
  ·cases hm
theorem E3u {x y z:Opd} (hm:D1 P o.op (.pick x y z)=true) (hS:D7 g s a.tmps) (h:prim c n0 s H (.pick x y z)=some (v,H')):Still P a o w g v H H':= by
 simp only[D1]at hm
 split at hm
 ·next c' a' b' hop =>
  simp only[Zc]at hm
  simp only[prim]at h
  split at h
  ·next hc =>
   have h1:=S5 (L6 hS hm.1.1 hc)
   cases he:ev s y with
   | none=>simp[he]at h
   | some u =>
    simp[he]at h;obtain⟨rfl,rfl⟩:=h
    exact⟨Z,_,by simp[execOp,hop,h1,asBool],L6 hS hm.1.2 he⟩
  ·next hc =>
   have h1:=S5 (L6 hS hm.1.1 hc)
   cases he:ev s z with
   | none=>simp[he]at h
   | some u =>
    simp[he]at h;obtain⟨rfl,rfl⟩:=h
    exact⟨Z,_,by simp[execOp,hop,h1,asBool],L6 hS hm.2 he⟩
  ·cases h
 ·cases hm
theorem E3r {k:Option Nat} {y:Opd} (hm:D1 P o.op (.load k y)=true) (hR:Rel MC P B0 H g w) (hS:D7 g s a.tmps) (hk:k≠some 0) (h:prim c n0 s H (.load k y)=some (v,H')):Still P a o w g v H H':= by
 simp only[D1]at hm
 split at hm
 ·next t x hop =>
  simp only[Zc]at hm
  have fin:∀p cs,ev s y=some p→H6 H p=some cs→k.getD 1≤cs.length→v=A6s k cs→H'=H→Still P a o w g v H H':= by
   intro p cs he hp hl hv hH
   have hne:cs≠[]:= by
    intro e;subst e
    cases k with
    | none=>simp at hl
    | some k=>simp at hl;subst hl;exact hk Z
   obtain⟨ad,e1,e2⟩:=B2s hR hp (L6 hS hm.2 he) hne
   obtain⟨u,hu,hV⟩:=A89 hm.1 e2 hl
   refine⟨hH,u,?_,by rw[hv];exact hV⟩
   simp[execOp,hop,Instr.loadAt,Instr.sureAddr,e1,hu]
  cases k with
  | none =>
   simp only[prim]at h
   split at h
   ·next p he =>
    split at h
    ·next u l hp=>simp at h;exact fin p _ he hp (by simp) (by simp[A6s,h.1]) h.2.symm
    ·cases h
   ·cases h
  | some k =>
   simp only[prim]at h
   split at h
   ·next p he =>
    split at h
    ·next cs hp =>
     split at h
     ·next hle=>simp at h;exact fin p _ he hp (by simpa using hle) (by simp[A6s,h.1]) h.2.symm
     ·cases h
    ·cases h
   ·cases h
 ·cases hm
theorem E1j {y:Opd} (hm:D1 P o.op (.nilck y)=true) (hS:D7 g s a.tmps) (h:prim c n0 s H (.nilck y)=some (v,H')):Still P a o w g v H H':= by
 simp only[D1]at hm
 split at hm
 ·next x hop =>
  simp only[prim]at h
  split at h <;> simp at h
  all_goals
   obtain⟨rfl,rfl⟩:=h
   have hV:=L6 hS hm ‹_›
   refine⟨Z,a.eval x,?_,hV⟩
   simp only[execOp,hop]
   generalize a.eval x=u at hV ⊢
  ·cases hV with
   | den _ _ hd=>cases hd
   | ptr _ _ β e hL=>simp[*]
  ·cases hV with
   | den _ _ hd=>cases hd
   | eptr=>simp[*]
  ·cases hV with
   | den _ _ hd=>cases hd
   | cptr=>simp[*]
  ·cases hV with
   | den _ _ hd=>cases hd
   | fn f f' a1 c1 a' c' hf =>
    simp only[B8r]at hf
    subst hf
    simp[*]
 ·cases hm
end
section
variable {MC:Nat→Code→ACode→Prop} {P:Program} {B0:Nat} {c:Sc} {n0:Nat} {H H':A2} {g:Ghost} {w:World} {s:C2} {a:Act} {o:Oper} {v:AV}
theorem B1v (b off n:Nat):(⟨b,off,none⟩:Addr).add n=⟨b,off+n,none⟩:= by
 unfold Addr.add;split
 ·next h=>subst h;rfl
 ·rfl
theorem A7o {ad:Addr} (h:ad.spot=none) (n:Nat):ad.add n=⟨ad.block,ad.off+n,none⟩:= by
 obtain⟨b,off,s⟩:=ad;have:s=none:=h;subst this;exact B1v b off n
theorem C71 {cs:List AV} {ad:Addr} (h:V g (.cptr cs) (.pointer (some ad))) (n:Nat):V g (.cptr (cs.drop n)) (.pointer (some (ad.add n))):= by
 cases h with
 | den _ _ hd=>cases hd
 | cptr _ _ vs hs h1 h2 h3 =>
  rw[A7o hs]
  refine .cptr _ _ (fun j=>vs (n+j)) Z (fun j x hj=>?_) (fun j x hj=>?_) (fun j x hj=>?_)
  all_goals rw[ZV]at hj
  ·have:=h1 _ _ hj
   simpa [Z03] using this
  ·exact h2 _ _ hj
  ·exact h3 _ _ hj
def AV.shift (n:Nat):AV→Option AV
 | .ptr b o=>some (.ptr b (o+n))
 | .eptr b m i o=>some (.eptr b m i (o+n))
 | .cptr cs=>some (.cptr (cs.drop n))
 | _=>none
theorem D2u {p q:AV} {u:Value} (h:V g p u) {n:Nat} (hq:p.shift n=some q):∃ad,u=.pointer (some ad)∧V g q (.pointer (some (ad.add n))):= by
 cases p <;> simp[AV.shift]at hq
 ·subst hq
  cases h with
  | den _ _ hd=>cases hd
  | ptr _ _ β e hL=>exact⟨_,Z,by rw[B1v];exact .ptr _ _ β e hL⟩
 ·subst hq
  cases h with
  | den _ _ hd=>cases hd
  | eptr _ _ _ _ k v p hL hle hp =>
   refine⟨_,Z,.eptr _ _ _ _ k v _ hL hle fun hn=>?_⟩
   obtain⟨β,c,e1,e2⟩:=hp hn
   exact⟨β,c,e1,by rw[e2,B1v];simp[Z03]⟩
 ·subst hq
  cases h with
  | den _ _ hd=>cases hd
  | cptr _ ad vs hs h1 h2 h3=>exact⟨_,Z,C71 (.cptr _ ad vs hs h1 h2 h3) n⟩
theorem fieldAt?_spec {t f:Nat} {fl:Field} (h:fieldAt? P t f=some fl):∃fs,P.underlying t=some (.struct fs)∧fs[f]? = some fl:= by
 unfold fieldAt? at h
 split at h
 ·next fs hu=>exact⟨fs,hu,h⟩
 ·cases h
theorem S9 {t e:Nat} (h:A1r P t=some e):P.underlying t=some (.slice e):= by
 unfold A1r at h
 split at h
 ·next hu=>cases h;exact hu
 ·cases h
theorem C9s {off:Nat} {y:Opd} (hm:D1 P o.op (.fieldAddr off y)=true) (hS:D7 g s a.tmps) (h:prim c n0 s H (.fieldAddr off y)=some (v,H')):Still P a o w g v H H':= by
 simp only[D1]at hm
 split at hm
 ·next t x f hop =>
  simp only[Zc]at hm
  obtain⟨h1,h2⟩:=hm
  split at h1
  ·next fl hfl =>
   obtain⟨fs,hu,hf⟩:=fieldAt?_spec hfl
   simp at h1
   obtain⟨⟨rfl,hkn⟩,hpos⟩:=h1
   have fin:∀p q,ev s y=some p→p.shift fl.offset=some q→v=q→H'=H→Still P a o w g v H H':= by
    intro p q he hq hv hH
    obtain⟨ad,e1,e2⟩:=D2u (L6 hS h2 he) hq
    subst hv
    refine⟨hH,_,?_,e2⟩
    have hne:¬ P.cellsOf fl.type=0:= by omega
    simp[execOp,hop,Instr.fieldAt,run_underlying hu,hf,e1,Instr.sureAddr,fieldPlace,M4 (M3 hkn),hne]
   simp only[prim]at h
   split at h <;> simp at h
   ·next he=>exact fin _ _ he Z h.1.symm h.2.symm
   ·next he=>exact fin _ _ he Z h.1.symm h.2.symm
   ·next he=>exact fin _ _ he Z h.1.symm h.2.symm
  ·cases h1
 ·cases hm
theorem B5j {k:IntKind} {n:Int} {u:Value} (h:V g (.lit (.int k n)) u):u=.int k n:=S5 h
theorem E3m {k n:Nat} {x y:Opd} (hm:D1 P o.op (.idxA k n x y)=true) (hS:D7 g s a.tmps) (h:prim c n0 s H (.idxA k n x y)=some (v,H')):Still P a o w g v H H':= by
 simp only[D1]at hm
 split at hm
 ·next t x' i' hop =>
  simp only[Zc]at hm
  obtain⟨⟨h1,h2⟩,h3⟩:=hm
  split at h1
  ·next m e hu =>
   simp at h1
   obtain⟨⟨⟨rfl,hk⟩,hkn⟩,hpos⟩:=h1
   have fin:∀p q kk i,ev s x=some p→ev s y=some (.lit (.int kk i))→0≤i∧i<m→p.shift (i.toNat*k)=some q→v=q→H'=H→Still P a o w g v H H':= by
    intro p q kk i he hi hb hq hv hH
    obtain⟨ad,e1,e2⟩:=D2u (L6 hS h2 he) hq
    have e3:=B5j (L6 hS h3 hi)
    subst hv
    refine⟨hH,_,?_,e2⟩
    simp[execOp,hop,Instr.indexAt,run_underlying hu,e1,e3,asIntOf,Instr.sureAddr,hb,M4 (M3 hkn),hk]
   simp only[prim]at h
   split at h
   ·next he hi=>split at h <;> simp at h;exact fin _ _ _ _ he hi ‹_› rfl h.1.symm h.2.symm
   ·next he hi=>split at h <;> simp at h;exact fin _ _ _ _ he hi ‹_› rfl h.1.symm h.2.symm
   ·next he hi=>split at h <;> simp at h;exact fin _ _ _ _ he hi ‹_› rfl h.1.symm h.2.symm
   ·cases h
  ·cases h1
 ·cases hm
theorem E3n {k:Nat} {x y:Opd} (hm:D1 P o.op (.idxS k x y)=true) (hR:Rel MC P B0 H g w) (hS:D7 g s a.tmps) (h:prim c n0 s H (.idxS k x y)=some (v,H')):Still P a o w g v H H':= by
 simp only[D1]at hm
 split at hm
 ·next t x' i' hop =>
  simp only[Zc]at hm
  obtain⟨⟨h1,h2⟩,h3⟩:=hm
  split at h1
  ·next e hsl =>
   have hu:=S9 hsl
   simp at h1
   obtain⟨⟨hk,hkn⟩,hpos⟩:=h1
   have fin:∀ad (len:Nat) cp kk i,a.eval x'=.slice (some ad) len cp→ev s y=some (.lit (.int kk i))→0≤i→i<len→V g v (.pointer (some (ad.add (i.toNat*k))))→H'=H→Still P a o w g v H H':= by
    intro ad len cp kk i he hi hb1 hb2 hV hH
    have e3:=B5j (L6 hS h3 hi)
    refine⟨hH,_,?_,hV⟩
    simp[execOp,hop,Instr.indexAt,run_underlying hu,he,e3,asIntOf,hb1,hb2,M4 (M3 hkn),hk]
   simp only[prim]at h
   split at h
   ·next kq rows kk i he hi =>
    split at h
    ·next h0 =>
     obtain⟨h0,rfl⟩:=h0
     cases hr:rows[i.toNat]? with
     | none=>simp[hr]at h
     | some r =>
      simp[hr]at h
      have hV:=L6 hS h2 he
      generalize hev:a.eval x'=u at hV
      cases hV with
      | den _ _ hd =>
       cases hd with
       | seq0=>simp at hr
       | seq _ _ ad cp vs hs hcap hlen q1 q2 =>
        have hlt:=(Ze.1 hr).1
        refine fin _ _ _ _ _ hev hi h0 (by omega) ?_ h.2.symm
        rw[← h.1,A7o hs]
        refine .cptr _ _ (fun j=>vs i.toNat j) Z (fun j x hj=>?_) (fun j x hj=>.den _ _ (q2 _ _ _ _ hr hj)) (fun j x hj=>(q2 _ _ _ _ hr hj).one)
        have:=q1 _ _ _ _ hr hj
        simpa [Z03] using this
    ·cases h
   ·next kq rows kk i he hi =>
    split at h
    ·next h0 =>
     obtain⟨h0,rfl⟩:=h0
     cases hr:rows[i.toNat]? with
     | none=>simp[hr]at h
     | some r =>
      simp[hr]at h
      have hV:=L6 hS h2 he
      generalize hev:a.eval x'=u at hV
      cases hV with
      | den _ _ hd=>cases hd
      | xseq _ _ ad cp vs hs hcap hlen q1 q2 q3 =>
       have hlt:=(Ze.1 hr).1
       refine fin _ _ _ _ _ hev hi h0 (by omega) ?_ h.2.symm
       rw[← h.1,A7o hs]
       refine .cptr _ _ (fun j=>vs i.toNat j) Z (fun j x hj=>?_) (fun j x hj=>q2 _ _ _ _ hr hj) (fun j x hj=>q3 _ _ _ _ hr hj)
       have:=q1 _ _ _ _ hr hj
       simpa [Z03] using this
    ·cases h
   ·next b n kk i he hi =>
    split at h
    ·next k' pb rows hc =>
     split at h
     ·next h0 =>
      obtain⟨h0,h1',rfl,hn⟩:=h0
      simp at h
      obtain⟨v0,hL,_,hk0,hlen,hv0⟩:=hR.arr hc
      have hV:=L6 hS h2 he
      generalize hev:a.eval x'=u at hV
      cases hV with
      | den _ _ hd=>cases hd
      | asl _ _ k2 v1 _ hL' hle hone hnv =>
       rw[hL]at hL'; cases hL'
       rcases hv0 with⟨e0,_⟩|⟨β,cp,e',cur,hv,_⟩
       ·subst e0;simp at hn;omega
       ·subst hv
        have e1:=hnv (by simpa [slen] using hn)
        subst e1
        refine fin _ _ _ _ _ hev hi h0 (by omega) ?_ h.2.symm
        rw[← h.1,B1v]
        exact .eptr _ _ _ _ _ _ _ hL (by simp[slen,hn]) (fun _=>⟨β,cp,by rw[hn],by simp⟩)
     ·cases h
    ·cases h
   ·next b o m n kk i he hi =>
    split at h
    ·next k' pb rows hc =>
     split at h
     ·next h0 =>
      obtain⟨h0,h1',rfl,hn⟩:=h0
      simp at h
      obtain⟨v0,hL,hbox⟩:=hR.arr hc
      have hV:=L6 hS h2 he
      generalize hev:a.eval x'=u at hV
      cases hV with
      | den _ _ hd=>cases hd
      | csl _ _ _ _ β c e hL'=>rw[hL]at hL'; cases hL'
      | csa _ _ _ _ kk' c v1 x hL' hcn hle hp =>
       rw[hL]at hL'; cases hL'
       obtain⟨_,hk0,hlen,hv0⟩:=hbox
       have hsl:slen v0=m:= by
        rcases hv0 with⟨e0,e1⟩|⟨β,cp,e',cur,hv,_⟩
        ·subst e0 e1;simp at hn;simpa [slen] using hn
        ·subst hv;simpa [slen] using hn
       obtain⟨β,c0,e1,e2,e3⟩:=hp hsl
       subst e1 e2
       refine fin _ _ _ _ _ hev hi h0 h1' ?_ h.2.symm
       rw[← h.1,B1v]
       exact .eptr _ _ _ _ _ _ _ hL (by simp[slen]) (fun _=>⟨β,c0,Z,by rw[Z21];rfl⟩)
     ·cases h
    ·cases h
   ·cases h
  ·cases h1
 ·cases hm
end
section
variable {MC:Nat→Code→ACode→Prop} {P:Program} {B0:Nat} {c:Sc} {n0:Nat} {H H':A2} {g:Ghost} {w:World} {s:C2} {a:Act} {o:Oper} {v:AV}
theorem D2c {op:BinOp} {k:IntKind} {x y:Int} {v:Value} (h:B1x op k x y=some v) (h1:op≠.shl) (h2:op≠.shr) (t:TypeId) :
  (binOp op t (.int k x) (.int k y)).run P w=.ok v w∧v.oneCell'=true:= by
 cases op <;> simp[B1x]at h <;> first
  | (subst h;simp[binOp,Op.intArith,Op.intCmp,Op.intBits,Value.oneCell'];done)
  | (obtain⟨hb,rfl⟩:=h;simp[binOp,Op.intDiv,hb,Value.oneCell'];done)
  | (exact absurd Z h1)|(exact absurd Z h2)
theorem B0n (b:ByteArray):b.toList=b.data.toList:=ByteArray.toList_eq b
theorem D2d {op:BinOp} {x y:ByteArray} {v:Value} (h:C05 op x y=some v) (t:TypeId) :
  (binOp op t (.string x) (.string y)).run P w=.ok v w∧v.oneCell'=true:= by
 cases op <;> simp[C05]at h
 ·obtain⟨hl,rfl⟩:=h
  have:¬ ((x.size:Int)+y.size>IntKind.i64.max):= by
   have e:IntKind.i64.max=9223372036854775807:= by decide
   rw[e];omega
  simp[binOp,Op.stringOp,Value.oneCell']
  omega
 all_goals (subst h;simp[binOp,Op.stringOp,B0n,Value.oneCell'])
theorem B1z (op:BinOp) (t:TypeId) (x y:Operand) (k k':IntKind) (m n:Int):(eqGuard op t x y (.int k m) (.int k' n)).run P w=.ok () w:= by
 cases op <;> rfl
theorem C8l (op:BinOp) (t:TypeId) (x y:Operand) (m n:ByteArray):(eqGuard op t x y (.string m) (.string n)).run P w=.ok () w:= by
 cases op <;> rfl
theorem C6p (op:BinOp) (t:TypeId) (x y:Operand) (m n:Bool):(eqGuard op t x y (.bool m) (.bool n)).run P w=.ok () w:= by
 cases op <;> rfl
theorem M1 {u:Value} (h:u.oneCell'=true):V g (.lit u) u:=.den _ _ (.lit _ h)
theorem E56 {op:BinOp} {x y:Opd} (hm:D1 P o.op (.bin op x y)=true) (hS:D7 g s a.tmps) (h:prim c n0 s H (.bin op x y)=some (v,H')):Still P a o w g v H H':= by
 simp only[D1]at hm
 split at hm
 ·next op' t x' y' yt hop =>
  simp only[Zc]at hm
  obtain⟨⟨h1,h2⟩,h3⟩:=hm
  have e0:op'=op:= by simpa using h1
  subst e0
  simp only[prim]at h
  split at h
  ·next p q hp hq =>
   cases hb:A9c op' p q with
   | none=>simp[hb]at h
   | some r =>
    simp[hb]at h
    obtain⟨rfl,rfl⟩:=h
    refine⟨Z,?_⟩
    unfold A9c at hb
    split at hb
    ·next k m k' n =>
     have e1:=B5j (L6 hS h2 hp)
     have e2:=B5j (L6 hS h3 hq)
     split at hb
     ·split at hb
      ·cases hb
      ·next hn =>
       simp at hb;subst hb
       refine⟨_,?_,M1 Z⟩
       simp[execOp,hop,e1,e2,B1z,binOp,Op.shift,hn]
     ·split at hb
      ·cases hb
      ·next hn =>
       simp at hb;subst hb
       refine⟨_,?_,M1 Z⟩
       simp[execOp,hop,e1,e2,B1z,binOp,Op.shift,hn]
     ·next n1 n2 =>
      split at hb
      ·next hk =>
       subst hk
       cases hi:B1x op' k m n with
       | none=>simp[hi]at hb
       | some u =>
        simp[hi]at hb;subst hb
        obtain⟨r1,r2⟩:=D2c (P:=P) (w:=w) hi n1 n2 t
        refine⟨u,?_,M1 r2⟩
        simp[execOp,hop,e1,e2,B1z,r1]
      ·cases hb
    ·next m n =>
     have e1:=S5 (L6 hS h2 hp)
     have e2:=S5 (L6 hS h3 hq)
     cases hi:C05 op' m n with
     | none=>simp[hi]at hb
     | some u =>
      simp[hi]at hb;subst hb
      obtain⟨r1,r2⟩:=D2d (P:=P) (w:=w) hi t
      refine⟨u,?_,M1 r2⟩
      simp[execOp,hop,e1,e2,C8l,r1]
    ·cases hb
  ·cases h
 ·cases hm
theorem E55 {neg:Bool} {x y:Opd} (hm:D1 P o.op (.beq neg x y)=true) (hS:D7 g s a.tmps) (h:prim c n0 s H (.beq neg x y)=some (v,H')):Still P a o w g v H H':= by
 simp only[D1]at hm
 split at hm
 ·next op' t x' y' yt hop =>
  simp only[Zc]at hm
  obtain⟨⟨⟨h0,h1⟩,h2⟩,h3⟩:=hm
  have e0:op'=if neg then .neq else .eql:= by simpa using h0
  split at h1
  ·next hu =>
   simp only[prim]at h
   split at h
   ·next m n hp hq =>
    simp at h;obtain⟨rfl,rfl⟩:=h
    have e1:=S5 (L6 hS h2 hp)
    have e2:=S5 (L6 hS h3 hq)
    refine⟨Z,_,?_,M1 Z⟩
    cases neg <;> simp at e0 <;> subst e0 <;>
     simp[execOp,hop,e1,e2,C6p,binOp,Op.equal,Op.maxDepth,run_equalIn_bool' w 9999 t m n hu]
   ·cases h
  ·cases h1
 ·cases hm
theorem E8q {op:UnOp} {x:Opd} (hm:D1 P o.op (.un op x)=true) (hS:D7 g s a.tmps) (h:prim c n0 s H (.un op x)=some (v,H')):Still P a o w g v H H':= by
 simp only[D1]at hm
 split at hm
 ·next op' t x' hop =>
  simp only[Zc]at hm
  obtain⟨h1,h2⟩:=hm
  have e0:op'=op:= by simpa using h1
  subst e0
  simp only[prim]at h
  split at h
  ·next p hp =>
   cases hb:unV op' p with
   | none=>simp[hb]at h
   | some r =>
    simp[hb]at h
    obtain⟨rfl,rfl⟩:=h
    refine⟨Z,?_⟩
    unfold unV at hb
    split at hb
    ·simp at hb;subst hb
     have e1:=S5 (L6 hS h2 hp)
     exact⟨_,by simp[execOp,hop,e1,Op.unary],M1 Z⟩
    ·simp at hb;subst hb
     have e1:=S5 (L6 hS h2 hp)
     refine⟨_,?_,M1 Z⟩
     simp[execOp,hop,e1,Op.unary,Op.intArith]
    ·cases hb
  ·cases h
 ·cases hm
theorem E3l {k:IntKind} {x:Opd} (hm:D1 P o.op (.conv k x)=true) (hS:D7 g s a.tmps) (h:prim c n0 s H (.conv k x)=some (v,H')):Still P a o w g v H H':= by
 simp only[D1]at hm
 split at hm
 ·next src dst x' hop =>
  simp only[Zc]at hm
  obtain⟨⟨h1,h2⟩,h3⟩:=hm
  obtain⟨ds,hs⟩:=Z0q.1 h1
  split at h2
  ·next k' hu =>
   have ek:k=k':= by simpa using h2
   subst ek
   simp only[prim]at h
   split at h
   ·next kk n hp =>
    simp at h;obtain⟨rfl,rfl⟩:=h
    have e1:=S5 (L6 hS h3 hp)
    exact⟨Z,_,by simp[execOp,hop,e1,convert,run_underlying hs,run_underlying hu,Conv.intToInt],M1 Z⟩
   ·cases h
  ·cases h2
 ·cases hm
theorem E58 {x:Opd} (hm:D1 P o.op (.idc x)=true) (hS:D7 g s a.tmps) (h:prim c n0 s H (.idc x)=some (v,H')):Still P a o w g v H H':= by
 simp only[D1]at hm
 split at hm
 ·next src dst x' hop =>
  simp only[Zc]at hm
  obtain⟨⟨h1,h2⟩,h3⟩:=hm
  obtain⟨ds,hs⟩:=Z0q.1 h1
  split at h2
  ·next hu =>
   simp only[prim]at h
   split at h
   ·next b hp =>
    simp at h;obtain⟨rfl,rfl⟩:=h
    have e1:=S5 (L6 hS h3 hp)
    refine⟨Z,_,?_,M1 Z⟩
    simp only[execOp,hop,e1,convert,Sem.run_bind,run_underlying hs,run_underlying hu,Result.andThen_ok]
    cases ds <;> rfl
   ·cases h
  ·cases h2
 ·cases hm
theorem E3s {f:Fn} {x y:List Opd} (hm:D1 P o.op (.mkfn f x y)=true) (hS:D7 g s a.tmps) (h:prim c n0 s H (.mkfn f x y)=some (v,H')):Still P a o w g v H H':= by
 simp only[D1]at hm
 split at hm
 ·next f' x' y' hop =>
  simp only[Zc]at hm
  obtain⟨⟨h1,h2⟩,h3⟩:=hm
  simp only[prim]at h
  split at h
  ·next p q hp hq =>
   simp at h;obtain⟨rfl,rfl⟩:=h
   obtain⟨l1,r1⟩:=C4t hS h2 hp
   obtain⟨l2,r2⟩:=C4t hS h3 hq
   refine⟨Z,_,by simp[execOp,hop,Instr.makeFunc];rfl,?_⟩
   refine .fn _ _ _ _ _ _ ?_ (by simp[l1]) (by simp[l2]) (fun j x hj=>?_) (fun j x hj=>?_)
   ·cases f' <;> cases f <;> simp[D3v]at h1
    subst h1;rfl
   ·have:=r1 j x hj
    simpa [Z4b] using this
   ·have:=r2 j x hj
    simpa [Z4b] using this
  ·cases h
 ·cases hm
theorem D5r {x:Opd} {i:Nat} (hm:D1 P o.op (.extract x i)=true) (hS:D7 g s a.tmps) (h:prim c n0 s H (.extract x i)=some (v,H')):Still P a o w g v H H':= by
 simp only[D1]at hm
 split at hm
 ·next x' i' hop =>
  simp only[Zc]at hm
  obtain⟨h1,h2⟩:=hm
  have e0:i'=i:= by simpa using h1
  subst e0
  simp only[prim]at h
  split at h
  ·next cs hp =>
   cases hc:cs[i']? with
   | none=>simp[hc]at h
   | some u =>
    simp[hc]at h;obtain⟨rfl,rfl⟩:=h
    have hV:=L6 hS h2 hp
    generalize hev:a.eval x'=z at hV
    cases hV with
    | den _ _ hd=>cases hd
    | tup _ vs hl hv =>
     have:=hv _ _ hc
     have hlt:i'<vs.size:= by rw[hl];exact(Ze.1 hc).1
     refine⟨Z,vs[i'],?_,by simpa [hlt] using this⟩
     simp[execOp,hop,hev,Instr.extract,hlt]
  ·cases h
 ·cases hm
theorem E8o {mx:Bool} {xs:List Opd} (hm:D1 P o.op (.mm mx xs)=true) (hS:D7 g s a.tmps) (h:prim c n0 s H (.mm mx xs)=some (v,H')):Still P a o w g v H H':= by
 have key:∀(l:List AV) (vs:List Value) (p:AV) (u:Value) (r:AV),mmV mx p l=some r→V g p u→l.length=vs.length→(∀ j x,l[j]? = some x→V g x (vs.getD j undef)) →
   (l≠[]→∃ k n,p=.lit (.int k n)) →
   ∃ z,(vs.foldlM (if mx then Builtin.max2 else Builtin.min2) u).run P w=.ok z w∧V g r z:= by
  intro l
  induction l with
  | nil =>
   intro vs p u r hr hp hl _ _
   cases vs with
   | nil=>simp[mmV]at hr;subst hr;exact⟨u,by simp,hp⟩
   | cons=>simp at hl
  | cons y l ih =>
   intro vs p u r hr hp hl hj hq
   cases vs with
   | nil=>simp at hl
   | cons y' vs =>
    unfold mmV at hr
    split at hr
    ·next h0=>cases h0
    ·next k m k' n l' h0 =>
     cases h0
     split at hr
     ·next hk =>
      subst hk
      have e1:=S5 hp
      have e2:=S5 (hj 0 _ Z)
      simp at e2
      subst e1 e2
      obtain⟨z,hz,hV⟩:=ih vs _ (.int k (if mx then (if n>m then n else m) else (if n<m then n else m))) r hr (M1 Z) (by simpa using hl) (fun j x hx=>by simpa using hj (j+1) x (by simpa using hx)) (fun _=>⟨_,_,Z⟩)
      refine⟨z,?_,hV⟩
      cases mx <;> simp[Builtin.max2,Builtin.min2]at hz ⊢ <;> exact hz
     ·cases hr
    ·cases hr
 have fin:∀args:Array Operand,S0 args.toList xs=true→∃ p l r,evs s xs=some (p::l)∧mmV mx p l=some r∧v=r∧H'=H∧∃ u vs z,args.toList.map a.eval=u::vs∧(vs.foldlM (if mx then Builtin.max2 else Builtin.min2) u).run P w=.ok z w∧V g r z:= by
  intro args hma
  simp only[prim]at h
  split at h
  ·next p l hp =>
   cases hr:mmV mx p l with
   | none=>simp[hr]at h
   | some r =>
    simp[hr]at h
    obtain⟨l1,r1⟩:=C4t hS hma hp
    cases ha:args.toList with
    | nil=>rw[ha]at l1;simp at l1
    | cons u vs =>
     rw[ha]at l1 r1
     obtain⟨z,hz,hV⟩:=key l (vs.map a.eval) p (a.eval u) r hr (by simpa using r1 0 p Z) (by simpa using l1) (fun j x hj=>by simpa using r1 (j+1) x (by simpa using hj)) (fun hne=>by
      cases l with
      | nil=>exact absurd Z hne
      | cons y l =>
       unfold mmV at hr
       split at hr
       ·next h0=>cases h0
       ·exact⟨_,_,Z⟩
       ·cases hr)
     exact⟨p,l,r,hp,hr,h.1.symm,h.2.symm,a.eval u,vs.map a.eval,z,by simp[ha],hz,hV⟩
  ·cases h
 simp only[D1]at hm
 split at hm
 ·next args t hop =>
  simp only[Zc]at hm
  obtain⟨p,l,r,_,_,rfl,hH,u,vs,z,e1,e2,hV⟩:=fin _ hm.2
  refine⟨hH,z,?_,hV⟩
  rw[hm.1]at e2
  simp only[if_true]at e2
  simp[execOp,hop,resolve,invoke,builtin,Builtin.max_,e1,e2]
 ·next args t hop =>
  simp only[Zc]at hm
  obtain⟨p,l,r,_,_,rfl,hH,u,vs,z,e1,e2,hV⟩:=fin _ hm.2
  refine⟨hH,z,?_,hV⟩
  have:mx=false:= by simpa using hm.1
  rw[this]at e2
  simp only[Zj,if_false]at e2
  simp[execOp,hop,resolve,invoke,builtin,Builtin.min_,e1,e2]
 ·cases hm
end
section
variable {MC:Nat→Code→ACode→Prop} {P:Program} {B0:Nat} {c:Sc} {n0:Nat} {H H':A2} {g:Ghost} {w:World} {s:C2} {a:Act} {o:Oper} {v:AV}
theorem A4h {k:Nat} {t:TypeId} (ht:X5 P t=some k) {x y:AV} (hx:kinds [k] [x]=true) (hy:kinds [k] [y]=true) {r:Bool} (h:A4s x y=some r)
  {u u':Value} (hu:V g x u) (hu':V g y u') (d:Nat) (w:World):(Op.equalIn (d+1) t u u').run P w=.ok r w:= by
 have cases3:(k=0∧∃ q m,x=.lit (.int q m))∨(k=1∧∃ m,x=.lit (.bool m))∨(k=2∧∃ m,x=.lit (.string m)):= by
  unfold kinds at hx
  split at hx <;> simp_all
 have cases3':(k=0∧∃ q m,y=.lit (.int q m))∨(k=1∧∃ m,y=.lit (.bool m))∨(k=2∧∃ m,y=.lit (.string m)):= by
  unfold kinds at hy
  split at hy <;> simp_all
 rcases cases3 with⟨rfl,q,m,rfl⟩|⟨rfl,m,rfl⟩|⟨rfl,m,rfl⟩ <;> rcases cases3' with⟨h1,q',m',rfl⟩|⟨h1,m',rfl⟩|⟨h1,m',rfl⟩ <;> simp at h1
 ·rw[S5 hu,S5 hu']
  unfold X5 at ht
  split at ht <;> simp at ht
  next q2 hun =>
  simp only[A4s]at h
  split at h
  ·next e=>subst e;cases h;exact run_equalIn_int w d t q q2 m m' hun
  ·cases h
 ·rw[S5 hu,S5 hu']
  unfold X5 at ht
  split at ht <;> simp at ht
  next hun =>
  simp only[A4s]at h
  cases h;exact run_equalIn_bool' w d t m m' hun
 ·rw[S5 hu,S5 hu']
  unfold X5 at ht
  split at ht <;> simp at ht
  next hun =>
  simp only[A4s]at h
  cases h
  rw[← B0n,← B0n]
  exact run_equalIn_string w d t m m' hun
theorem A12 {k:Nat} {ks:List Nat} {x:AV} {l:List AV} (h:kinds (k::ks) (x::l)=true):kinds [k] [x]=true∧kinds ks l=true:= by
 unfold kinds at h
 split at h <;> simp_all [kinds]
theorem A4i:∀{ks:List Nat} {l:List AV},kinds ks l=true→l.length=ks.length
 | [],[],_=>rfl
 | [],_::_,h=>by simp[kinds]at h
 | _::_,[],h=>by simp[kinds]at h
 | _::_,_::_,h=>by simp[A4i (A12 h).2]
theorem D1q {t:TypeId} {k:Nat} (h:X5 P t=some k):B7r P t=false:= by
 unfold X5 at h
 unfold B7r
 split at h <;> simp_all
theorem A4n {t:TypeId} {k:Nat} (hk:known P t=true) (ht:X5 P t=some k) {xs:Array Value} {i:Nat} (hi:i<xs.size) (w:World) :
  (part t xs i).run P w=.ok xs[i] w:= by
 simp[part,B0h (A94 hk),D1q ht,hi]
theorem B34 {d:Nat} (w:World) {xs ys:Array Value}:∀(fs:List Field) (ks:List Nat) (i:Nat) (l m:List AV) (r:Bool),A0q P i fs ks=true →
  kinds ks l=true→kinds ks m=true→I4 l m=some r→(∀ (j:Nat) x,l[j]? = some x→i+j<xs.size∧V g x (xs[i+j]?.getD undef))→(∀ (j:Nat) x,m[j]? = some x→i+j<ys.size∧V g x (ys[i+j]?.getD undef)) →
  (Op.eqFields (d+1) xs ys fs).run P w=.ok r w
 | [],[],i,[],[],r,_,_,_,h,_,_=>by simp[I4]at h;subst h;simp[Op.eqFields]
 | [],_::_,_,_,_,_,h,_,_,_,_,_=>by simp[A0q]at h
 | _::_,[],_,_,_,_,h,_,_,_,_,_=>by simp[A0q]at h
 | [],[],_,_::_,_,_,_,h,_,_,_,_=>by simp[kinds]at h
 | [],[],_,[],_::_,_,_,_,h,_,_,_=>by simp[kinds]at h
 | _::_,_::_,_,[],_,_,_,h,_,_,_,_=>by simp[kinds]at h
 | _::_,_::_,_,_::_,[],_,_,_,h,_,_,_=>by simp[kinds]at h
 | f::fs,k::ks,i,x::l,y::m,r,hf,hl,hm,h,hx,hy=>by
  simp only[A0q,Zc]at hf
  obtain⟨⟨⟨⟨h1,h2⟩,h3⟩,h4⟩,h5⟩:=hf
  have e1:f.offset=i:= by simpa using h1
  have e2:f.name ≠ "_":= by simpa using h2
  have e4:X5 P f.type=some k:= by simpa using h4
  obtain⟨l1,l2⟩:=A12 hl
  obtain⟨m1,m2⟩:=A12 hm
  obtain⟨x1,x2⟩:=hx 0 x Z
  obtain⟨y1,y2⟩:=hy 0 y Z
  simp only[Z1e]at x1 x2 y1 y2
  have p1:=A4n (P:=P) h3 e4 x1 w
  have p2:=A4n (P:=P) h3 e4 y1 w
  simp only[I4]at h
  simp only[Op.eqFields,if_pos e2,Sem.run_bind,e1,p1,p2,Result.andThen_ok]
  have hx2:V g x xs[i]:= by simpa [x1] using x2
  have hy2:V g y ys[i]:= by simpa [y1] using y2
  split at h
  ·next he =>
   rw[A4h e4 l1 m1 he hx2 hy2 d w]
   simp only[Result.andThen_ok,Z0y,Zj,if_false]
   exact B34 w fs ks (i+1) l m r h5 l2 m2 h (fun j z hj=>by have:=hx (j+1) z hj;rwa [show i+(j+1)=i+1+j by omega]at this) (fun j z hj=>by have:=hy (j+1) z hj;rwa [show i+(j+1)=i+1+j by omega]at this)
  ·next he =>
   cases h
   rw[A4h e4 l1 m1 he hx2 hy2 d w]
   simp
  ·cases h
theorem B5p {d e:Nat} (w:World) (hk:known P e=true) {xs ys:Array Value}:∀(ks:List Nat) (i:Nat) (l m:List AV) (r:Bool),(ks.all fun k=>X5 P e==some k)=true →
  kinds ks l=true→kinds ks m=true→I4 l m=some r→(∀ (j:Nat) x,l[j]? = some x→i+j<xs.size∧V g x (xs[i+j]?.getD undef))→(∀ (j:Nat) x,m[j]? = some x→i+j<ys.size∧V g x (ys[i+j]?.getD undef)) →
  (Op.eqItems (d+1) e 1 xs ys (Z5z i ks.length)).run P w=.ok r w
 | [],i,[],[],r,_,_,_,h,_,_=>by simp[I4]at h;subst h;simp[Op.eqItems]
 | [],_,_::_,_,_,_,h,_,_,_,_=>by simp[kinds]at h
 | [],_,[],_::_,_,_,_,h,_,_,_=>by simp[kinds]at h
 | _::_,_,[],_,_,_,h,_,_,_,_=>by simp[kinds]at h
 | _::_,_,_::_,[],_,_,_,h,_,_,_=>by simp[kinds]at h
 | k::ks,i,x::l,y::m,r,hf,hl,hm,h,hx,hy=>by
  simp only[ZS,Zc]at hf
  obtain⟨h4,h5⟩:=hf
  have e4:X5 P e=some k:= by simpa using h4
  obtain⟨l1,l2⟩:=A12 hl
  obtain⟨m1,m2⟩:=A12 hm
  obtain⟨x1,x2⟩:=hx 0 x Z
  obtain⟨y1,y2⟩:=hy 0 y Z
  simp only[Z1e]at x1 x2 y1 y2
  have p1:=A4n (P:=P) hk e4 x1 w
  have p2:=A4n (P:=P) hk e4 y1 w
  simp only[I4]at h
  simp only[ZT,Z5c,Op.eqItems,Sem.run_bind,Z60,p1,p2,Result.andThen_ok]
  have hx2:V g x xs[i]:= by simpa [x1] using x2
  have hy2:V g y ys[i]:= by simpa [y1] using y2
  split at h
  ·next he =>
   rw[A4h e4 l1 m1 he hx2 hy2 d w]
   simp only[Result.andThen_ok,Z0y,Zj,if_false]
   exact B5p w hk ks (i+1) l m r h5 l2 m2 h (fun j z hj=>by have:=hx (j+1) z hj;rwa [show i+(j+1)=i+1+j by omega]at this) (fun j z hj=>by have:=hy (j+1) z hj;rwa [show i+(j+1)=i+1+j by omega]at this)
  ·next he =>
   cases h
   rw[A4h e4 l1 m1 he hx2 hy2 d w]
   simp
  ·cases h
theorem A9u {cs:List AV} {u:Value} (h:V g (.agg cs) u):∃vs:Array Value,u=.agg vs∧vs.size=cs.length∧∀ (j:Nat) x,cs[j]? = some x→j<vs.size∧V g x (vs[j]?.getD undef)∧(vs[j]?.getD undef).oneCell'=true:= by
 cases h with
 | den _ _ hd=>cases hd
 | agg _ vs hl hv h1=>exact⟨vs,Z,hl,fun j x hj=>⟨by rw[hl];exact(Ze.1 hj).1,hv j x hj,h1 j x hj⟩⟩
theorem B0u {t:TypeId} {ks:List Nat} (ht:B0t P t ks=true) {l m:List AV} (hl:kinds ks l=true) (hm:kinds ks m=true) {r:Bool} (h:I4 l m=some r)
  {xs ys:Array Value} (hx:∀(j:Nat) x,l[j]? = some x→j<xs.size∧V g x (xs[j]?.getD undef)) (hy:∀(j:Nat) x,m[j]? = some x→j<ys.size∧V g x (ys[j]?.getD undef)) (d:Nat) (w:World) :
  (Op.equalIn (d+2) t (.agg xs) (.agg ys)).run P w=.ok r w:= by
 unfold B0t at ht
 simp only[Zc]at ht
 obtain⟨h0,h1⟩:=ht
 split at h1
 ·next fs hu =>
  simp only[Zc]at h1
  have hu':P.underlying t=some (.struct (P.fieldsOf t)):= by simp[Program.fieldsOf,hu]
  have hf:P.fieldsOf t=fs:= by simp[Program.fieldsOf,hu]
  rw[run_equalIn_struct w (d+1) t xs ys hu' (by simpa using h1.1),hf]
  exact B34 w fs.toList ks 0 l m r h1.2 hl hm h (fun j x hj=>by simpa using hx j x hj) (fun j x hj=>by simpa using hy j x hj)
 ·next n e hu =>
  simp only[Zc]at h1
  obtain⟨⟨⟨a1,a2⟩,a3⟩,a4⟩:=h1
  obtain⟨i,hi⟩:=Z0q.1 (M3 a3)
  have e1:n=ks.length:= by simpa using a1
  have e2:P.cellsOf e=1:= by simpa using a2
  rw[run_equalIn_array w (d+1) xs ys hu hi,e2,e1,List.range_eq_range']
  exact B5p w a3 ks 0 l m r a4 hl hm h (fun j x hj=>by simpa using hx j x hj) (fun j x hj=>by simpa using hy j x hj)
 ·cases h1
theorem B3w {t:TypeId} {k:Option Nat} (ht:A55 P t k=true) {cs:List AV} {vs:Array Value} {off:Nat} (hl:vs.size=cs.length)
  (hv:∀(j:Nat) x,cs[j]? = some x→j<vs.size∧V g x (vs[j]?.getD undef)∧(vs[j]?.getD undef).oneCell'=true) (hle:off+k.getD 1≤cs.length) (w:World) :
  ∃ x,(part t vs off).run P w=.ok x w∧V g (A6s k (cs.drop off)) x:= by
 cases k with
 | none =>
  simp[A55]at ht
  simp at hle
  have hlt:off<vs.size:= by omega
  refine⟨vs[off],by simp[part,B0h (A94 ht.1),ht.2,hlt],?_⟩
  have hc:off<cs.length:= by omega
  have:=(hv off cs[off] (by simp[hc])).2.1
  simp[hlt]at this
  simpa [A6s,Z2t,Z4c,hc] using this
 | some k =>
  simp[A55]at ht
  simp at hle
  obtain⟨⟨hk,ha⟩,hc⟩:=ht
  refine⟨.agg (vs.extract off (off+k)),by simp[part,B0h (A94 hk),ha,M4 (M3 hk),hc],?_⟩
  have key:∀(j:Nat) x,((cs.drop off).take k)[j]? = some x→j<k∧cs[off+j]? = some x:= by
   intro j x hj
   have hjk:j<k:= by have:=(Ze.1 hj).1;simp at this;omega
   rw[ZO hjk,ZV]at hj
   exact⟨hjk,hj⟩
  refine .agg _ _ (by simp;omega) (fun j x hj=>?_) (fun j x hj=>?_)
  all_goals
   obtain⟨k1,k2⟩:=key j x hj
   obtain⟨q1,q2,q3⟩:=hv _ _ k2
   have:(vs.extract off (off+k))[j]? = vs[off+j]?:= by
    rw[Array.getElem?_extract];simp;omega
   rw[this]
   assumption
theorem D7q {k:Nat} {ks:List Nat} {x:AV} {l:List AV} (h1:kinds [k] [x]=true) (h2:kinds ks l=true):kinds (k::ks) (x::l)=true:= by
 unfold kinds at h1 ⊢
 split at h1 <;> simp_all [kinds]
theorem B7t:∀(n:Nat) {ks:List Nat} {l:List AV},kinds ks l=true→kinds (ks.take n) (l.take n)=true∧kinds (ks.drop n) (l.drop n)=true
 | 0,_,_,h=>⟨Z,h⟩
 | n+1,[],[],_=>⟨Z,Z⟩
 | n+1,[],_::_,h=>by simp[kinds]at h
 | n+1,_::_,[],h=>by simp[kinds]at h
 | n+1,k::ks,x::l,h=>by
  obtain⟨h1,h2⟩:=A12 h
  obtain⟨h3,h4⟩:=B7t n h2
  exact⟨D7q h1 h3,h4⟩
theorem C1d:∀(n:Nat) {l m:List AV} {r:Bool},I4 l m=some r→(I4 (l.take n) (m.take n)=some false∧r=false)∨(I4 (l.take n) (m.take n)=some true∧I4 (l.drop n) (m.drop n)=some r)
 | 0,_,_,_,h=>.inr ⟨Z,h⟩
 | n+1,[],[],_,h=>.inr ⟨Z,h⟩
 | n+1,[],_::_,_,h=>by simp[I4]at h
 | n+1,_::_,[],_,h=>by simp[I4]at h
 | n+1,x::l,y::m,r,h=>by
  simp only[List.take_succ_cons,List.drop_succ_cons]
  simp only[I4]at h ⊢
  split at h
  ·next he=>exact C1d n h
  ·next he=>cases h;exact .inl ⟨Z,Z⟩
  ·cases h
theorem A7s {d:Nat} (w:World) {xs ys:Array Value} {L M:List AV} (hxl:xs.size=L.length) (hyl:ys.size=M.length) (hx:∀(j:Nat) x,L[j]? = some x→j<xs.size∧V g x (xs[j]?.getD undef)∧(xs[j]?.getD undef).oneCell'=true) (hy:∀(j:Nat) x,M[j]? = some x→j<ys.size∧V g x (ys[j]?.getD undef)∧(ys[j]?.getD undef).oneCell'=true) :
  ∀ (fs:List Field) (ks:List Nat) (i:Nat) (r:Bool),B3a P i fs ks=true→kinds ks (L.drop i)=true→kinds ks (M.drop i)=true→I4 (L.drop i) (M.drop i)=some r→(Op.eqFields (d+2) xs ys fs).run P w=.ok r w
 | [],[],i,r,_,h1,h2,h=>by
  have e1:=A4i h1
  have e2:=A4i h2
  rw[Z15 e1,Z15 e2]at h
  simp[I4]at h;subst h;simp[Op.eqFields]
 | [],_::_,_,_,h,_,_,_=>by simp[B3a]at h
 | f::fs,ks,i,r,hf,hl,hm,h=>by
  simp only[B3a,Zc]at hf
  obtain⟨⟨h1,h2⟩,h3⟩:=hf
  have e1:f.offset=i:= by simpa using h1
  have e2:f.name ≠ "_":= by simpa using h2
  split at h3
  ·next k k' ks' hk =>
   simp only[Zc]at h3
   obtain⟨⟨h4,h5⟩,h6⟩:=h3
   have e5:k=k':= by simpa using h5
   subst e5
   have n1:=A4i hl
   have n2:=A4i hm
   have il:i<L.length:= by simp at n1;omega
   have im:i<M.length:= by simp at n2;omega
   rw[Z2q il]at hl h
   rw[Z2q im]at hm h
   obtain⟨l1,l2⟩:=A12 hl
   obtain⟨m1,m2⟩:=A12 hm
   obtain⟨x1,x2,_⟩:=hx i L[i] (Zm il)
   obtain⟨y1,y2,_⟩:=hy i M[i] (Zm im)
   have p1:=A4n (P:=P) h4 hk x1 w
   have p2:=A4n (P:=P) h4 hk y1 w
   simp only[I4]at h
   simp only[Op.eqFields,if_pos e2,Sem.run_bind,e1,p1,p2,Result.andThen_ok]
   have hx2:V g L[i] xs[i]:= by simpa [x1] using x2
   have hy2:V g M[i] ys[i]:= by simpa [y1] using y2
   split at h
   ·next he =>
    rw[A4h hk l1 m1 he hx2 hy2 (d+1) w]
    simp only[Result.andThen_ok,Z0y,Zj,if_false]
    exact A7s w hxl hyl hx hy fs ks' (i+1) r h6 l2 m2 h
   ·next he =>
    cases h
    rw[A4h hk l1 m1 he hx2 hy2 (d+1) w]
    simp
   ·cases h
  ·cases h3
  ·next _ hk =>
   split at h3
   ·next n e hu =>
    simp only[Zc]at h3
    obtain⟨⟨⟨h4,h5⟩,h6a,h6⟩,h7⟩:=h3
    have h6':=Zp h6
    have h6a':0<n:=Zp h6a
    have n1:=A4i hl
    have n2:=A4i hm
    rw[Z2i]at n1 n2
    obtain⟨u,p1,hu1⟩:=B3w (g:=g) h5 hxl hx (off:=i) (by simp only[ZW];omega) w
    obtain⟨v,p2,hv1⟩:=B3w (g:=g) h5 hyl hy (off:=i) (by simp only[ZW];omega) w
    obtain⟨us,rfl,hus,hu2⟩:=A9u (show V g (.agg ((L.drop i).take n)) u from hu1)
    obtain⟨vs,rfl,hvs,hv2⟩:=A9u (show V g (.agg ((M.drop i).take n)) v from hv1)
    obtain⟨k1,k2⟩:=B7t n hl
    obtain⟨k3,k4⟩:=B7t n hm
    rw[Z19]at k2 k4
    simp only[Op.eqFields,if_pos e2,Sem.run_bind,e1,p1,p2,Result.andThen_ok]
    rcases C1d n h with⟨q1,rfl⟩|⟨q1,q2⟩
    ·rw[B0u h4 k1 k3 q1 (fun j x hj=>⟨(hu2 j x hj).1,(hu2 j x hj).2.1⟩) (fun j x hj=>⟨(hv2 j x hj).1,(hv2 j x hj).2.1⟩) d w]
     simp
    ·rw[B0u h4 k1 k3 q1 (fun j x hj=>⟨(hu2 j x hj).1,(hu2 j x hj).2.1⟩) (fun j x hj=>⟨(hv2 j x hj).1,(hv2 j x hj).2.1⟩) d w]
     simp only[Result.andThen_ok,Z0y,Zj,if_false]
     rw[Z19,Z19]at q2
     exact A7s w hxl hyl hx hy fs _ (i+n) r h7 k2 k4 q2
   ·cases h3
theorem C8o {t:TypeId} {ks:List Nat} (ht:C0b P t ks=true) {l m:List AV} (hl:kinds ks l=true) (hm:kinds ks m=true) {r:Bool} (h:I4 l m=some r)
  {xs ys:Array Value} (hxl:xs.size=l.length) (hyl:ys.size=m.length) (hx:∀(j:Nat) x,l[j]? = some x→j<xs.size∧V g x (xs[j]?.getD undef)∧(xs[j]?.getD undef).oneCell'=true) (hy:∀(j:Nat) x,m[j]? = some x→j<ys.size∧V g x (ys[j]?.getD undef)∧(ys[j]?.getD undef).oneCell'=true) (d:Nat) (w:World) :
  (Op.equalIn (d+3) t (.agg xs) (.agg ys)).run P w=.ok r w:= by
 unfold C0b at ht
 simp only[Zc]at ht
 obtain⟨h0,h1⟩:=ht
 split at h1
 ·next fs hu =>
  simp only[Zc]at h1
  have hu':P.underlying t=some (.struct (P.fieldsOf t)):= by simp[Program.fieldsOf,hu]
  have hf:P.fieldsOf t=fs:= by simp[Program.fieldsOf,hu]
  rw[run_equalIn_struct w (d+2) t xs ys hu' (by simpa using h1.1),hf]
  exact A7s w hxl hyl hx hy fs.toList ks 0 r h1.2 hl hm h
 ·cases h1
theorem E57 {neg:Bool} {ks:List Nat} {x y:Opd} (hm:D1 P o.op (.cmp neg ks x y)=true) (hS:D7 g s a.tmps) (h:prim c n0 s H (.cmp neg ks x y)=some (v,H')):Still P a o w g v H H':= by
 simp only[D1]at hm
 split at hm
 ·next op t x' y' yt hop =>
  simp only[Zc]at hm
  obtain⟨⟨⟨h0,h1⟩,h2⟩,h3⟩:=hm
  have e0:op=if neg then .neq else .eql:= by simpa using h0
  simp only[prim]at h
  split at h
  ·next l m hp hq =>
   split at h
   ·next hk =>
    simp only[Zc]at hk
    split at h
    ·next r hr =>
     simp at h;obtain⟨rfl,rfl⟩:=h
     obtain⟨xs,ex,hxl,hx⟩:=A9u (L6 hS h2 hp)
     obtain⟨ys,ey,hyl,hy⟩:=A9u (L6 hS h3 hq)
     have hrun:(Op.equalIn 10000 t (.agg xs) (.agg ys)).run P w=.ok r w:= by
      rcases Z4y.1 h1 with h1|h1
      ·exact B0u h1 hk.1 hk.2 hr (fun j x hj=>⟨(hx j x hj).1,(hx j x hj).2.1⟩) (fun j x hj=>⟨(hy j x hj).1,(hy j x hj).2.1⟩) 9998 w
      ·exact C8o h1 hk.1 hk.2 hr hxl hyl hx hy 9997 w
     have hg:P.eqGuardType P.depth t=false:= by
      rcases Z4y.1 h1 with h1|h1
      ·unfold B0t at h1;simp at h1;exact h1.1
      ·unfold C0b at h1;simp at h1;exact h1.1
     refine⟨Z,_,?_,M1 Z⟩
     cases neg <;> simp at e0 <;> subst e0 <;>
      simp[execOp,hop,ex,ey,run_eqGuard_agg w _ t x' y' xs ys hg,run_eql_struct,run_neq_struct,hrun]
    ·cases h
   ·cases h
  ·cases h
 ·cases hm
theorem E1i {k:Option Nat} {off:Nat} {y:Opd} (hm:D1 P o.op (.field k off y)=true) (hS:D7 g s a.tmps) (h:prim c n0 s H (.field k off y)=some (v,H')):Still P a o w g v H H':= by
 simp only[D1]at hm
 split at hm
 ·next t x f hop =>
  simp only[Zc]at hm
  obtain⟨h1,h2⟩:=hm
  split at h1
  ·next fl hfl =>
   obtain⟨fs,hu,hf⟩:=fieldAt?_spec hfl
   simp only[Zc]at h1
   have e1:fl.offset=off:= by simpa using h1.1
   subst e1
   simp only[prim]at h
   split at h
   ·next cs hp =>
    obtain⟨vs,ex,hl,hv⟩:=A9u (L6 hS h2 hp)
    have fin:fl.offset+k.getD 1≤cs.length→v=A6s k (cs.drop fl.offset)→H'=H→Still P a o w g v H H':= by
     intro hle hv' hH
     obtain⟨z,hz,hV⟩:=B3w h1.2 hl hv hle w
     refine⟨hH,z,?_,by rw[hv'];exact hV⟩
     simp[execOp,hop,ex,Instr.field,run_underlying hu,hf,asAgg,hz]
    split at h
    ·cases hc:cs[fl.offset]? with
     | none=>simp[hc]at h
     | some u =>
      simp[hc]at h
      have hlt:=(Ze.1 hc).1
      refine fin (by simp;omega) ?_ h.2.symm
      simp[A6s,Z2t,Z4c,hc,h.1]
    ·next kk =>
     split at h
     ·next hle=>simp at h;exact fin (by simpa using hle) (by simp[A6s,h.1]) h.2.symm
     ·cases h
   ·cases h
  ·cases h1
 ·cases hm
theorem D80 {k:Option Nat} {sz n:Nat} {x y:Opd} (hm:D1 P o.op (.idxAgg k sz n x y)=true) (hS:D7 g s a.tmps) (h:prim c n0 s H (.idxAgg k sz n x y)=some (v,H')):Still P a o w g v H H':= by
 simp only[D1]at hm
 split at hm
 ·next t x' i' hop =>
  simp only[Zc]at hm
  obtain⟨⟨h1,h2⟩,h3⟩:=hm
  split at h1
  ·next m e hu =>
   simp only[Zc]at h1
   have e1:m=n:= by simpa using h1.1.1
   have e2:P.cellsOf e=sz:= by simpa using h1.1.2
   subst e1 e2
   have hkn:known P e=true:= by
    have:=h1.2;cases k <;> simp[A55]at this
    ·exact this.1
    ·exact this.1.1
   simp only[prim]at h
   split at h
   ·next cs kk i hp hq =>
    obtain⟨vs,ex,hl,hv⟩:=A9u (L6 hS h2 hp)
    have ei:=B5j (L6 hS h3 hq)
    split at h
    ·next hb =>
     have fin:i.toNat*P.cellsOf e+k.getD 1≤cs.length→v=A6s k (cs.drop (i.toNat*P.cellsOf e))→H'=H→Still P a o w g v H H':= by
      intro hle hv' hH
      obtain⟨z,hz,hV⟩:=B3w h1.2 hl hv hle w
      refine⟨hH,z,?_,by rw[hv'];exact hV⟩
      simp[execOp,hop,ex,ei,Instr.index,run_underlying hu,asIntOf,hb,M4 (M3 hkn),hz]
     split at h
     ·cases hc:cs[i.toNat*P.cellsOf e]? with
      | none=>simp[hc]at h
      | some u =>
       simp[hc]at h
       have hlt:=(Ze.1 hc).1
       refine fin (by simp;omega) ?_ h.2.symm
       simp[A6s,Z2t,Z4c,hc,h.1]
     ·next kk =>
      split at h
      ·next hle=>simp at h;exact fin (by simpa using hle) (by simp[A6s,h.1]) h.2.symm
      ·cases h
    ·cases h
   ·cases h
  ·cases h1
 ·cases hm
theorem D81 {x y:Opd} (hm:D1 P o.op (.idxStr x y)=true) (hS:D7 g s a.tmps) (h:prim c n0 s H (.idxStr x y)=some (v,H')):Still P a o w g v H H':= by
 simp only[D1]at hm
 split at hm
 ·next t x' i' hop =>
  simp only[Zc]at hm
  obtain⟨⟨h1,h2⟩,h3⟩:=hm
  split at h1
  ·next hu =>
   simp only[prim]at h
   split at h
   ·next b kk i hp hq =>
    have ex:=S5 (L6 hS h2 hp)
    have ei:=B5j (L6 hS h3 hq)
    split at h
    ·next hb =>
     cases hc:b[i.toNat]? with
     | none=>simp[hc]at h
     | some u =>
      simp[hc]at h;obtain⟨rfl,rfl⟩:=h
      refine⟨Z,_,?_,M1 Z⟩
      simp[execOp,hop,ex,ei,Instr.index,run_underlying hu,asIntOf,hb,hc]
    ·cases h
   ·cases h
  ·cases h1
 ·cases hm
end
section
variable {MC:Nat→Code→ACode→Prop} {P:Program} {B0:Nat} {c:Sc} {n0:Nat} {H H':A2} {g:Ghost} {w:World} {s:C2} {a:Act} {o:Oper} {v:AV}
theorem E3q {x:Opd} (hm:D1 P o.op (.lenS x)=true) (hS:D7 g s a.tmps) (h:prim c n0 s H (.lenS x)=some (v,H')):Still P a o w g v H H':= by
 simp only[D1]at hm
 split at hm
 ·next args argTypes hop =>
  split at hm
  ·next x' t ea et =>
   simp only[Zc]at hm
   obtain⟨h1,h2⟩:=hm
   have e1:argTypes[0]? = some t:= by rw[← Z0j,et];rfl
   have e2:(args.map a.eval)[0]? = some (a.eval x'):= by rw[Z28,← Z0j,ea];rfl
   split at h1
   ·next hu =>
    simp only[prim]at h
    split at h
    ·next b hp =>
     simp at h;obtain⟨rfl,rfl⟩:=h
     have ex:=S5 (L6 hS h2 hp)
     refine⟨Z,_,?_,M1 Z⟩
     simp[execOp,hop,resolve,invoke,builtin,Builtin.len_,e1,e2,run_underlying hu,ex,goInt]
    ·cases h
   ·cases h1
  ·cases hm
 ·cases hm
theorem E3p {x:Opd} (hm:D1 P o.op (.lenM x)=true) (hR:Rel MC P B0 H g w) (hS:D7 g s a.tmps) (h:prim c n0 s H (.lenM x)=some (v,H')):Still P a o w g v H H':= by
 simp only[D1]at hm
 split at hm
 ·next args argTypes hop =>
  split at hm
  ·next x' t ea et =>
   simp only[Zc]at hm
   obtain⟨h1,h2⟩:=hm
   have e1:argTypes[0]? = some t:= by rw[← Z0j,et];rfl
   have e2:(args.map a.eval)[0]? = some (a.eval x'):= by rw[Z28,← Z0j,ea];rfl
   split at h1
   ·next kt et' hu =>
    simp only[prim]at h
    split at h
    ·next b hp =>
     split at h
     ·next es hc =>
      simp at h;obtain⟨rfl,rfl⟩:=h
      obtain⟨β,hL,en,clock,q1,q2,_⟩:=hR.map hc
      have hV:=L6 hS h2 hp
      generalize hev:a.eval x'=u at hV
      cases hV with
      | den _ _ hd=>cases hd
      | mp _ β' hL' =>
       rw[hL]at hL'; cases hL'
       refine⟨Z,_,?_,M1 Z⟩
       simp[execOp,hop,resolve,invoke,builtin,Builtin.len_,e1,e2,run_underlying hu,hev,goInt,getObj,Sem.run,q1,q2]
     ·cases h
    ·next hp =>
     simp at h;obtain⟨rfl,rfl⟩:=h
     have ex:=S5 (L6 hS h2 hp)
     refine⟨Z,_,?_,M1 Z⟩
     simp[execOp,hop,resolve,invoke,builtin,Builtin.len_,e1,e2,run_underlying hu,ex,goInt]
    ·cases h
   ·cases h1
  ·cases hm
 ·cases hm
theorem E3o {x:Opd} (hm:D1 P o.op (.lenL x)=true) (hR:Rel MC P B0 H g w) (hS:D7 g s a.tmps) (h:prim c n0 s H (.lenL x)=some (v,H')):Still P a o w g v H H':= by
 simp only[D1]at hm
 split at hm
 ·next args argTypes hop =>
  split at hm
  ·next x' t ea et =>
   simp only[Zc]at hm
   obtain⟨h1,h2⟩:=hm
   have e1:argTypes[0]? = some t:= by rw[← Z0j,et];rfl
   have e2:(args.map a.eval)[0]? = some (a.eval x'):= by rw[Z28,← Z0j,ea];rfl
   split at h1
   ·next e hu =>
    have fin:∀(n:Nat) ad cp,a.eval x'=.slice ad n cp→v=.lit (.int .i64 n)→H'=H→Still P a o w g v H H':= by
     intro n ad cp he hv hH
     subst hv
     exact⟨hH,_,by simp[execOp,hop,resolve,invoke,builtin,Builtin.len_,e1,e2,run_underlying hu,he,goInt],M1 Z⟩
    simp only[prim]at h
    split at h
    ·next k hp =>
     simp at h
     have hV:=L6 hS h2 hp
     generalize hev:a.eval x'=u at hV
     cases hV with
     | den _ _ hd=>cases hd with|nils=>exact fin 0 _ _ hev (by simp[h.1]) h.2.symm
    ·next k rows hp =>
     simp at h
     have hV:=L6 hS h2 hp
     generalize hev:a.eval x'=u at hV
     cases hV with
     | den _ _ hd =>
      cases hd with
      | seq0=>exact fin 0 _ _ hev (by simp[← h.1]) h.2.symm
      | seq=>exact fin _ _ _ hev (by simp[h.1]) h.2.symm
    ·next k rows hp =>
     simp at h
     have hV:=L6 hS h2 hp
     generalize hev:a.eval x'=u at hV
     cases hV with
     | den _ _ hd=>cases hd
     | xseq=>exact fin _ _ _ hev (by simp[h.1]) h.2.symm
    ·next b off k n hp =>
     simp at h
     have hV:=L6 hS h2 hp
     generalize hev:a.eval x'=u at hV
     cases hV with
     | den _ _ hd=>cases hd
     | csl=>exact fin _ _ _ hev (by simp[h.1]) h.2.symm
     | csa=>exact fin _ _ _ hev (by simp[h.1]) h.2.symm
    ·next b n hp =>
     split at h
     ·next k pb rows hc =>
      split at h
      ·next hn =>
       simp at h
       obtain⟨v0,hL,_,hk0,hlen,hv0⟩:=hR.arr hc
       have hV:=L6 hS h2 hp
       generalize hev:a.eval x'=u at hV
       cases hV with
       | den _ _ hd=>cases hd
       | asl _ _ k2 v1 _ hL' hle hone hnv =>
        rw[hL]at hL'; cases hL'
        rcases hv0 with⟨e0,e0'⟩|⟨β,cp,e',cur,hv,_⟩
        ·subst e0;subst e0'
         have:=hnv (by simpa [slen] using hn)
         subst this
         exact fin 0 _ _ hev (by simp[← h.1,← hn]) h.2.symm
        ·subst hv
         have:=hnv (by simpa [slen] using hn)
         subst this
         exact fin _ _ _ hev (by simp[h.1,hn]) h.2.symm
      ·cases h
     ·split at h
      ·next k rows _ hc =>
       split at h
       ·next hn =>
        simp at h
        obtain⟨v0,hL,_,hk0,hlen,hv0⟩:=hR.stk hc
        have hV:=L6 hS h2 hp
        generalize hev:a.eval x'=u at hV
        cases hV with
        | den _ _ hd=>cases hd
        | asl _ _ k2 v1 _ hL' hle hone hnv =>
         rw[hL]at hL'; cases hL'
         rcases hv0 with⟨e0,e0'⟩|⟨β,cp,e',cur,hv,_⟩
         ·subst e0;subst e0'
          have:=hnv (by simpa [slen] using hn)
          subst this
          exact fin 0 _ _ hev (by simp[← h.1,← hn]) h.2.symm
         ·subst hv
          have:=hnv (by simpa [slen] using hn)
          subst this
          exact fin _ _ _ hev (by simp[h.1,hn]) h.2.symm
       ·cases h
      ·cases h
    ·cases h
   ·cases h1
  ·cases hm
 ·cases hm
theorem A8s {x:Option Operand} {y:Option Opd} (hm:A06 x y=true) (hS:D7 g s a.tmps) {d r:Int} (h:bnd s d y=some r) :
  (x=none∧r=d)∨∃ x' k,x=some x'∧a.eval x'=.int k r:= by
 cases x <;> cases y <;> simp[A06]at hm
 ·simp[bnd]at h;exact .inl ⟨Z,h.symm⟩
 ·simp only[bnd,B10]at h
  split at h
  ·next k n he =>
   cases h
   exact .inr ⟨_,k,Z,B5j (L6 hS hm he)⟩
  ·cases h
theorem A08 {lo hi:Option Value} {isSlice:Bool} {len cap:Nat} {l h:Int} (h0:0≤l) (h1:l≤h) (h2:h≤len) (hc:len≤cap)
  (hl:(lo=none∧l=0)∨∃ k,lo=some (.int k l)) (hh:(hi=none∧h=len)∨∃ k,hi=some (.int k h)) (w:World) :
  (Instr.sliceBounds isSlice len cap lo hi none).run P w=.ok (l.toNat,h.toNat,cap) w:= by
 have b1:0≤h∧h≤(cap:Int):=⟨by omega,by omega⟩
 rcases hl with⟨rfl,rfl⟩|⟨k,rfl⟩ <;> rcases hh with⟨rfl,rfl⟩|⟨k',rfl⟩
 ·simp[Instr.sliceBounds]
 ·simp[Instr.sliceBounds,Instr.sliceBound,asIntOf,b1]
 ·have b2:0≤l∧l≤(len:Int):=⟨h0,h1⟩
  simp[Instr.sliceBounds,Instr.sliceBound,asIntOf,b2]
 ·have b2:0≤l∧l≤(h.toNat:Int):=⟨h0,by omega⟩
  simp[Instr.sliceBounds,Instr.sliceBound,asIntOf,b1,b2]
  intro hx;omega
theorem D84 {x:Opd} {lo hi:Option Opd} (hm:D1 P o.op (.sliceS x lo hi)=true) (hS:D7 g s a.tmps) (h:prim c n0 s H (.sliceS x lo hi)=some (v,H')):Still P a o w g v H H':= by
 simp only[D1]at hm
 split at hm
 ·next t x' lo' hi' hop =>
  simp only[Zc]at hm
  obtain⟨⟨⟨h1,h2⟩,h3⟩,h4⟩:=hm
  split at h1
  ·next hu =>
   simp only[prim]at h
   split at h
   ·next b hp =>
    split at h
    ·next l hh hl hr =>
     split at h
     ·next hb =>
      simp at h;obtain⟨rfl,rfl⟩:=h
      have ex:=S5 (L6 hS h2 hp)
      have q1:((lo'.map a.eval)=none∧l=0)∨∃ k,(lo'.map a.eval)=some (.int k l):= by
       rcases A8s h3 hS hl with⟨e1,e2⟩|⟨x2,k,e1,e2⟩
       ·exact .inl ⟨by simp[e1],e2⟩
       ·exact .inr ⟨k,by simp[e1,e2]⟩
      have q2:((hi'.map a.eval)=none∧hh=b.size)∨∃ k,(hi'.map a.eval)=some (.int k hh):= by
       rcases A8s h4 hS hr with⟨e1,e2⟩|⟨x2,k,e1,e2⟩
       ·exact .inl ⟨by simp[e1],e2⟩
       ·exact .inr ⟨k,by simp[e1,e2]⟩
      have hrun:=A08 (P:=P) (isSlice:=false) hb.1 hb.2.1 hb.2.2 (Zn _) q1 q2 w
      refine⟨Z,_,?_,M1 Z⟩
      simp[execOp,hop,Instr.sliceAt,run_underlying hu,ex,Instr.slice,hrun]
     ·cases h
    ·cases h
   ·cases h
  ·cases h1
 ·cases hm
theorem D83 {k n:Nat} {x:Opd} {hi:Option Opd} (hm:D1 P o.op (.sliceA k n x hi)=true) (hR:Rel MC P B0 H g w) (hS:D7 g s a.tmps) (h:prim c n0 s H (.sliceA k n x hi)=some (v,H')):Still P a o w g v H H':= by
 simp only[D1]at hm
 split at hm
 ·next t x' hi' hop =>
  simp only[Zc]at hm
  obtain⟨⟨h1,h2⟩,h4⟩:=hm
  split at h1
  ·next m e hu =>
   simp at h1
   obtain⟨⟨⟨rfl,hk⟩,hkn⟩,hpos⟩:=h1
   simp only[prim]at h
   split at h
   ·next b off hp =>
    split at h
    ·next cs hh hc hbd =>
     split at h
     ·next hb =>
      simp only[Zc,decide_eq_true_eq]at hb
      obtain⟨_,b1,b2⟩:=hb
      simp at h;obtain⟨rfl,rfl⟩:=h
      have hV:=L6 hS h2 hp
      have q2:((hi'.map a.eval)=none∧hh=m)∨∃ k,(hi'.map a.eval)=some (.int k hh):= by
       rcases A8s h4 hS hbd with⟨e1,e2⟩|⟨x2,k,e1,e2⟩
       ·exact .inl ⟨by simp[e1],e2⟩
       ·exact .inr ⟨k,by simp[e1,e2]⟩
      generalize hev:a.eval x'=u at hV
      cases hV with
      | den _ _ hd=>cases hd
      | ptr _ _ β e' hL =>
       have hrun:=fun lo hlo=>A08 (P:=P) (isSlice:=false) (lo:=lo) (l:=0) (Z02 0) b1 b2 (Zn m) hlo q2 w
       refine⟨Z,.slice (some ⟨β,off,none⟩) hh.toNat m,?_,.csl _ _ _ _ β m e' hL (by omega)⟩
       simp[execOp,hop,hev,Instr.sliceAt,run_underlying hu,Instr.sureAddr,hrun none (.inl ⟨Z,Z⟩),M4 (M3 hkn)]
       simp[Addr.add]
     ·cases h
    ·cases h
   ·cases h
  ·cases h1
 ·cases hm
theorem E3t {neg:Bool} {x:Opd} (hm:D1 P o.op (.nilq neg x)=true) (hS:D7 g s a.tmps) (h:prim c n0 s H (.nilq neg x)=some (v,H')):Still P a o w g v H H':= by
 simp only[D1]at hm
 split at hm
 ·next op' t x' yt hop =>
  simp only[Zc]at hm
  obtain⟨⟨h0,h1⟩,h2⟩:=hm
  have e0:op'=if neg then .neq else .eql:= by simpa using h0
  split at h1
  ·next e hu =>
   have fin:∀ad n cp,a.eval x'=.slice ad n cp→v=.lit (.bool (if neg then !ad.isNone else ad.isNone))→H'=H→Still P a o w g v H H':= by
    intro ad n cp he hv hH
    subst hv
    refine⟨hH,_,?_,M1 Z⟩
    have hg:(eqGuard op' t x' (.const (.slice none 0 0)) (.slice ad n cp) (.slice none 0 0)).run P w=.ok () w:= by cases op' <;> rfl
    have hq:∀d,(Op.equalIn (d+1) t (.slice ad n cp) (.slice none 0 0)).run P w=.ok ad.isNone w:=fun d=>by cases ad <;> simp[Op.equalIn,run_underlying hu]
    have hc:a.eval (.const (.slice none 0 0))=.slice none 0 0:=rfl
    cases neg <;> simp at e0 <;> subst e0 <;>
     simp[execOp,hop,he,hc,hg,binOp,Op.equal,Op.maxDepth,hq 9999]
   simp only[prim]at h
   split at h
   ·next k hp =>
    simp at h
    have hV:=L6 hS h2 hp
    generalize hev:a.eval x'=u at hV
    cases hV with
    | den _ _ hd=>cases hd with|nils=>exact fin none 0 0 hev (by rw[← h.1];cases neg <;> rfl) h.2.symm
   ·next b off k n hp =>
    simp at h
    have hV:=L6 hS h2 hp
    generalize hev:a.eval x'=u at hV
    cases hV with
    | den _ _ hd=>cases hd
    | csl=>exact fin _ _ _ hev (by rw[← h.1];cases neg <;> rfl) h.2.symm
    | csa=>exact fin _ _ _ hev (by rw[← h.1];cases neg <;> rfl) h.2.symm
   ·next k r rows hp =>
    simp at h
    have hV:=L6 hS h2 hp
    generalize hev:a.eval x'=u at hV
    cases hV with
    | den _ _ hd =>
     cases hd with
     | seq=>exact fin _ _ _ hev (by rw[← h.1];cases neg <;> rfl) h.2.symm
   ·cases h
  ·cases h1
 ·cases hm
theorem C1z {t:TypeId} {k:Nat} (h:X5 P t=some k):(∃ q,P.underlying t=some (.int q))∨P.underlying t=some .bool∨P.underlying t=some .string:= by
 unfold X5 at h
 split at h
 ·exact .inl ⟨_,‹_›⟩
 ·exact .inr (.inl ‹_›)
 ·exact .inr (.inr ‹_›)
 ·cases h
theorem A6u {t:TypeId} {k:Nat} (h:X5 P t=some k) (em:Bool) (d:Nat) (u:Value) (w:World):(Instr.checkKey em (d+1) t u).run P w=.ok () w:= by
 rcases C1z h with⟨q,hu⟩|hu|hu <;>
 ·simp only[Instr.checkKey,Sem.run_bind,run_underlying hu,Result.andThen_ok]
  cases u <;> rfl
theorem C3q {t:TypeId} {ks:List Nat} (ht:B0t P t ks=true) {xs:Array Value} (hx:xs.size=ks.length) (em:Bool) (d:Nat) (w:World) :
  (Instr.checkKey em (d+2) t (.agg xs)).run P w=.ok () w:= by
 unfold B0t at ht
 simp only[Zc]at ht
 obtain⟨h0,h1⟩:=ht
 split at h1
 ·next fs hu =>
  simp only[Zc]at h1
  rw[Instr.checkKey]
  simp only[Sem.run_bind,run_underlying hu,Result.andThen_ok]
  rw[← Array.forIn_toList]
  have key:∀(l:List Field) (ks:List Nat) (i:Nat),A0q P i l ks=true→i+ks.length≤xs.size →
    Sem.run P (forIn l PUnit.unit fun f r=>if f.name ≠ "_" then do
     let a ← part f.type xs f.offset
     Instr.checkKey em (d+1) f.type a
     pure (ForInStep.yield PUnit.unit)
    else pure (ForInStep.yield PUnit.unit)) w=.ok PUnit.unit w:= by
   intro l
   induction l with
   | nil=>intro ks i _ _;simp
   | cons f l ih =>
    intro ks i hf hi
    cases ks with
    | nil=>simp[A0q]at hf
    | cons k ks =>
     simp only[A0q,Zc]at hf
     obtain⟨⟨⟨⟨a1,a2⟩,a3⟩,a4⟩,a5⟩:=hf
     have e1:f.offset=i:= by simpa using a1
     have e2:f.name ≠ "_":= by simpa using a2
     have e4:X5 P f.type=some k:= by simpa using a4
     simp at hi
     have p1:=A4n (P:=P) a3 e4 (show i<xs.size by omega) w
     simp only[Z5i,if_pos e2,Sem.run_bind,e1,p1,Result.andThen_ok,A6u e4,Sem.run_pure]
     exact ih ks (i+1) a5 (by omega)
  have:=key fs.toList ks 0 h1.2 (by omega)
  simp at this ⊢
  rw[this];rfl
 ·next n e hu =>
  simp only[Zc]at h1
  obtain⟨⟨⟨a1,a2⟩,a3⟩,a4⟩:=h1
  have e1:n=ks.length:= by simpa using a1
  have e2:P.cellsOf e=1:= by simpa using a2
  rw[Instr.checkKey]
  simp only[Sem.run_bind,run_underlying hu,Result.andThen_ok]
  simp only[Std.Legacy.Range.forIn_eq_forIn_range',Std.Legacy.Range.size,Nat.sub_zero,Nat.add_one_sub_one,Nat.div_one]
  have key:∀(ks:List Nat) (i:Nat),(ks.all fun k=>X5 P e==some k)=true→i+ks.length≤xs.size →
    Sem.run P (forIn (Z5z i ks.length) PUnit.unit fun j r=>do
     let z ← Go.sizeOf e
     let a ← part e xs (j*z)
     Instr.checkKey em (d+1) e a
     pure (ForInStep.yield PUnit.unit)) w=.ok PUnit.unit w:= by
   intro ks
   induction ks with
   | nil=>intro i _ _;simp
   | cons k ks ih =>
    intro i hf hi
    simp only[ZS,Zc]at hf
    have e4:X5 P e=some k:= by simpa using hf.1
    simp at hi
    have p1:=A4n (P:=P) a3 e4 (show i<xs.size by omega) w
    simp only[ZT,Z5c,Z5i,Sem.run_bind,M4 (M3 a3),e2,Z60,p1,Result.andThen_ok,A6u e4,Sem.run_pure]
    have:=ih (i+1) hf.2 (by omega)
    simpa [M4 (M3 a3),e2] using this
  have:=key ks 0 a4 (by omega)
  rw[e1]
  simp at this ⊢
  rw[this];rfl
 ·cases h1
structure KeyV (P:Program) (g:Ghost) (t:TypeId) (ag:Bool) (ks:List Nat) (cs:List AV) (u:Value):Prop where
 check:∀(em:Bool) (w:World),(Instr.checkKey em 10000 t u).run P w=.ok () w
 eq:∀(l:List AV) (e:AV) (z:Value) (r:Bool) (w:World),V g e z→J9 ag e=some l→kinds ks l=true→I4 cs l=some r→(Op.equal t u z).run P w=.ok r w
theorem E46 {t:TypeId} {ag:Bool} {ks:List Nat} (ht:B8z P t ag ks=true) {key:AV} {cs:List AV} {u:Value} (hV:V g key u) (hc:J9 ag key=some cs) (hk:kinds ks cs=true):KeyV P g t ag ks cs u:= by
 cases ag with
 | true =>
  simp only[B8z,if_true]at ht
  cases key <;> simp[J9]at hc
  subst hc
  obtain⟨xs,rfl,hl,hx⟩:=A9u hV
  have hlen:=A4i hk
  refine⟨fun em w=>C3q ht (by omega) em 9998 w,?_⟩
  intro l e z r w he hc' hk' hr
  cases e <;> simp[J9]at hc'
  subst hc'
  obtain⟨ys,rfl,hl',hy⟩:=A9u he
  exact B0u ht hk hk' hr (fun j x hj=>⟨(hx j x hj).1,(hx j x hj).2.1⟩) (fun j x hj=>⟨(hy j x hj).1,(hy j x hj).2.1⟩) 9998 w
 | false =>
  simp only[B8z,Zj,if_false]at ht
  split at ht
  ·next k =>
   have e4:X5 P t=some k:= by simpa using ht
   cases key <;> simp[J9]at hc
   subst hc
   refine⟨fun em w=>A6u e4 em 9999 u w,?_⟩
   intro l e z r w he hc' hk' hr
   cases e <;> simp[J9]at hc'
   subst hc'
   simp only[I4]at hr
   split at hr
   ·next h1=>cases hr;exact A4h e4 hk hk' h1 hV he 9999 w
   ·next h1=>cases hr;exact A4h e4 hk hk' h1 hV he 9999 w
   ·cases hr
  ·cases ht
theorem B2y {t:TypeId} {ag:Bool} {ks:List Nat} {cs:List AV} {u:Value} (hK:KeyV P g t ag ks cs u) (hu:(P.underlying t).isSome=true) (w:World) :
  ∀ (es:List (AV×AV)) (en:List MapEntry) (i:Nat) (r:Option (Nat×AV)),en.length=es.length→(∀ (j:Nat) (e:AV×AV),es[j]? = some e→∃ m,en[j]? = some m∧V g e.1 m.key∧V g e.2 m.val) →
   findKey ag ks cs es i=some r →
   ∃ r',(Instr.findAsking t u en i).run P w=.ok r' w∧(match r with|none=>r'=none|some (j,x)=>∃ z,r'=some (j,z)∧V g x z∧i≤j∧j<i+es.length)
 | [],en,i,r,hl,_,h=>by
  cases en <;> simp at hl
  simp[findKey]at h;subst h
  exact⟨none,by simp[Instr.findAsking],Z⟩
 | e::es,en,i,r,hl,he,h=>by
  cases en with
  | nil=>simp at hl
  | cons m en =>
   obtain⟨m',h0,hk,hv⟩:=he 0 e Z
   simp at h0;subst h0
   simp only[findKey]at h
   split at h
   ·next l hc =>
    split at h
    ·next hkk =>
     split at h
     ·next hq =>
      cases h
      have:=hK.eq l e.1 m.key true w hk hc hkk hq
      exact⟨some (i,m.val),by simp[Instr.findAsking,this],m.val,Z,hv,Zn _,by simp⟩
     ·next hq =>
      have:=hK.eq l e.1 m.key false w hk hc hkk hq
      obtain⟨r',hr',hm⟩:=B2y hK hu w es en (i+1) r (by simpa using hl) (fun j e' hj=>by simpa using he (j+1) e' (by simpa using hj)) h
      refine⟨r',by simp[Instr.findAsking,this,hr'],?_⟩
      cases r with
      | none=>exact hm
      | some x=>obtain⟨z,a1,a2,a3,a4⟩:=hm;exact⟨z,a1,a2,by omega,by simp;omega⟩
     ·cases h
    ·cases h
   ·cases h
theorem B9g {t:TypeId} {d:TypeDesc} (hd:P.underlying t=some d) {u z:Value} {b:Bool} (h:Instr.sameNow d u z=some b) (w:World):(Op.equal t u z).run P w=.ok b w:= by
 unfold Instr.sameNow at h
 split at h
 ·split at h
  ·next hk=>subst hk;cases h;exact run_equalIn_int w 9999 t _ _ _ _ hd
  ·cases h
 ·cases h
  rw[beq_toListBytes]
  exact run_equalIn_string w 9999 t _ _ hd
 ·cases h;exact run_equalIn_bool' w 9999 t _ _ hd
 ·cases h
theorem B8t {t:TypeId} {d:TypeDesc} (hd:P.underlying t=some d) {u:Value} (w:World):∀(l:List MapEntry) (i:Nat) (r:Option (Nat×Value)),Instr.findNow d u l i=some r→(Instr.findAsking t u l i).run P w=.ok r w
 | [],i,r,h=>by simp[Instr.findNow]at h;subst h;simp[Instr.findAsking]
 | e::l,i,r,h=>by
  simp only[Instr.findNow]at h
  split at h
  ·next hs=>cases h;simp[Instr.findAsking,B9g hd hs w]
  ·next hs=>simpa [Instr.findAsking,B9g hd hs w] using B8t hd w l (i+1) r h
  ·cases h
theorem B6w {t:TypeId} (hu:(P.underlying t).isSome=true) {u:Value} (w:World) {l:List MapEntry} {r:Option (Nat×Value)} (h:(Instr.findAsking t u l 0).run P w=.ok r w) :
  (Instr.findKey t u l).run P w=.ok r w:= by
 obtain⟨d,hd⟩:=Z0q.1 hu
 simp only[Instr.findKey,Sem.run_bind,run_underlying hd,Result.andThen_ok]
 split
 ·next q hq =>
  have:=B8t hd w l 0 q hq
  rw[h]at this
  cases this;rfl
 ·exact h
theorem B3j {t:TypeId} {ag:Bool} {ks:List Nat} (ht:B8z P t ag ks=true):(P.underlying t).isSome=true:= by
 cases ag with
 | true =>
  simp only[B8z,if_true,B0t,Zc]at ht
  cases hu:P.underlying t with
  | none=>simp[hu]at ht
  | some _=>rfl
 | false =>
  simp only[B8z,Zj,if_false]at ht
  split at ht
  ·next k =>
   have e4:X5 P t=some k:= by simpa using ht
   rcases C1z e4 with⟨q,hu⟩|hu|hu <;> simp[hu]
  ·cases ht
def found (z:AV):Option (Nat×AV)→AV
 | some x=>x.2
 | none=>z
theorem D82 {z:AV} {ag ok:Bool} {ks:List Nat} {x y:Opd} (hm:D1 P o.op (.lookup z ag ks x y ok)=true) (hR:Rel MC P B0 H g w) (hS:D7 g s a.tmps) (h:prim c n0 s H (.lookup z ag ks x y ok)=some (v,H')):Still P a o w g v H H':= by
 simp only[D1]at hm
 split at hm
 ·next t m' i' ok' hop =>
  simp only[Zc]at hm
  obtain⟨⟨⟨h1,h2⟩,h3⟩,h4⟩:=hm
  have e0:ok'=ok:= by simpa using h2
  subst e0
  split at h1
  ·next kt et hu =>
   simp only[Zc]at h1
   obtain⟨h1,h5⟩:=h1
   split at h5
   ·next zv hz =>
    simp only[prim]at h
    split at h
    ·next p key hp hq =>
     split at h
     ·next es cs hes hcs =>
      split at h
      ·next hk =>
       have hV:=L6 hS h4 hq
       have hK:=E46 h1 hV hcs hk
       have hent:∃en:Array MapEntry,((a.eval m'=.map none∧en = #[])∨∃ β clock,a.eval m'=.map (some β)∧w.heap[β]? = some (.map en clock)) ∧
         en.toList.length=es.length∧(∀ (j:Nat) (e:AV×AV),es[j]? = some e→∃ m,en.toList[j]? = some m∧V g e.1 m.key∧V g e.2 m.val):= by
        have hVm:=L6 hS h3 hp
        split at hes
        ·next b =>
         obtain⟨β,hL,en,clock,q1,q2,q3,_⟩:=hR.map hes
         generalize a.eval m'=u at hVm ⊢
         cases hVm with
         | den _ _ hd=>cases hd
         | mp _ β' hL' =>
          rw[hL]at hL'; cases hL'
          refine⟨en,.inr ⟨β,clock,Z,q1⟩,by simpa using q2,fun j e hj=>?_⟩
          obtain⟨m,hm,r⟩:=q3 j e hj
          exact⟨m,by simpa using hm,r⟩
        ·cases hes
         exact⟨#[],.inl ⟨S5 hVm,Z⟩,Z,fun j e hj=>by simp at hj⟩
        ·cases hes
       obtain⟨en,r1,r2,r3⟩:=hent
       obtain⟨zi,hzi,hzz⟩:∃zi,P.info? et=some zi∧zi.zero=some zv:= by
        cases hi:P.info? et with
        | none=>simp[hi]at hz
        | some zi=>exact⟨zi,Z,by simpa [hi] using hz⟩
       have fin:∀(r:Option (Nat×AV)),findKey ag ks cs es 0=some r→v=(if ok' then .tup [(found z r),.lit (.bool r.isSome)] else (found z r))→H'=H→Still P a o w g v H H':= by
        intro r hr hv hH
        obtain⟨r',hr',hm⟩:=B2y hK (B3j h1) w es en.toList 0 r r2 r3 hr
        have hf:=B6w (B3j h1) w hr'
        obtain⟨q,hq1,hq2⟩:∃q,((r'=none∧q=zv∧r.isSome=false)∨(∃ j,r'=some (j,q)∧r.isSome=true))∧V g (found z r) q:= by
         cases r with
         | none=>exact⟨zv,.inl ⟨hm,Z,Z⟩,matchV_V g _ _ h5⟩
         | some x=>obtain⟨j,y⟩:=x;obtain⟨q,e,hq,_⟩:=hm;exact⟨q,.inr ⟨j,e,Z⟩,hq⟩
        refine⟨hH,(if ok' then .tuple #[q,.bool r.isSome] else q),?_,?_⟩
        ·have key:(Instr.lookup t (a.eval m') (a.eval i') ok').run P w=.ok (if ok' then .tuple #[q,.bool r.isSome] else q) w:= by
          rcases r1 with⟨e1,rfl⟩|⟨β,clock,e1,e2⟩
          ·rw[e1]
           simp only[Instr.lookup,Sem.run_bind,run_underlying hu,Result.andThen_ok,Sem.run_pure,hK.check,hf]
           rcases hq1 with⟨rfl,rfl,e3⟩|⟨j,rfl,e3⟩
           ·simp[zeroValue,typeInfo,hzi,hzz,e3]
           ·simp[e3]
          ·rw[e1]
           simp only[Instr.lookup,Sem.run_bind,run_underlying hu,Result.andThen_ok,getObj,Sem.run,e2,Sem.run_pure,hK.check,hf]
           rcases hq1 with⟨rfl,rfl,e3⟩|⟨j,rfl,e3⟩
           ·simp[zeroValue,typeInfo,hzi,hzz,e3]
           ·simp[e3]
         simp[execOp,hop,key]
        ·rw[hv]
         cases ok' with
         | false=>simpa using hq2
         | true =>
          refine .tup _ _ Z (fun j x hj=>?_)
          rcases j with _|_|j <;> simp at hj <;> subst hj
          ·simpa using hq2
          ·exact M1 Z
       split at h
       ·next j val hr=>simp at h;exact fin _ hr (by simp[found,h.1]) h.2.symm
       ·next hr=>simp at h;exact fin _ hr (by simp[found,h.1]) h.2.symm
       ·cases h
      ·cases h
     ·cases h
    ·cases h
   ·cases h5
  ·cases h1
 ·cases hm
end
theorem E4q {g:Ghost} {x:AV} {u:Value} (h:V g x u) (h1:∀cs,x≠.agg cs) (h2:∀cs,x≠.tup cs):u.oneCell'=true:= by
 cases h with
 | den _ _ hd=>exact hd.one
 | agg=>exact absurd Z (h1 _)
 | tup=>exact absurd Z (h2 _)
 | asl=>assumption
 | _=>rfl
theorem D4u {u:Value} (h:u.oneCell'=true):u.cells = #[u]:= by
 cases u <;> simp[Value.oneCell']at h <;> rfl
def V9 (g:Ghost) (cs:List AV) (vs:Array Value):Prop :=
 vs.size=cs.length∧∀ (j:Nat) (x:AV),cs[j]? = some x→∃ u,vs[j]? = some u∧V g x u∧u.oneCell'=true
theorem B7b {g:Ghost} {v:AV} {u:Value} (h:V g v u) (hne:v.cellsOf≠[]):V9 g v.cellsOf u.cells:= by
 have other:(∀ cs,v≠.agg cs)→(∀ cs,v≠.tup cs)→v.cellsOf=[v]→V9 g v.cellsOf u.cells:= by
  intro h1 h2 h3
  have ho:=E4q h h1 h2
  rw[h3,D4u ho]
  refine⟨Z,fun j x hj=>?_⟩
  rcases j with _|j <;> simp at hj
  subst hj
  exact⟨u,Z,h,ho⟩
 cases v <;> first
  | exact other (by simp) (by simp) Z
  | skip
 ·rename_i cs
  obtain⟨vs,rfl,hl,hx⟩:=A9u h
  refine⟨hl,fun j x hj=>?_⟩
  obtain⟨q1,q2,q3⟩:=hx j x hj
  refine⟨vs[j],by simp[q1,Value.cells],?_,?_⟩
  ·simpa [q1] using q2
  ·simpa [q1] using q3
 all_goals exact absurd Z hne
theorem V9.mono {g g':Ghost} (hg:g.le g') {cs:List AV} {vs:Array Value} (h:V9 g cs vs):V9 g' cs vs :=
 ⟨h.1,fun j x hj=>let ⟨u,a,b,c⟩:=h.2 j x hj;⟨u,a,b.mono hg,c⟩⟩
theorem C3x (g:Ghost) {zs:List AV} {z:Value} (h:matchVs zs z.cells.toList=true) (ho:z.cells.toList.all Value.oneCell'=true):V9 g zs z.cells:= by
 obtain⟨h1,h2⟩:=matchVs_V g zs z.cells.toList h
 refine⟨by simpa using h1,fun j x hj=>?_⟩
 have hlt:j<z.cells.size:= by have h3:=(Ze.1 hj).1;have h4:z.cells.toList.length=zs.length:=h1;simp at h4;omega
 refine⟨z.cells[j],by simp[hlt],?_,?_⟩
 ·have:=h2 j x hj;simpa [Z4b,hlt] using this
 ·have:=Zq.1 ho z.cells[j] (by simp)
  exact this
section
variable {MC:Nat→Code→ACode→Prop} {P:Program} {B0:Nat} {c:Sc} {n0:Nat} {H H':A2} {g:Ghost} {w:World} {s:C2} {a:Act} {o:Oper} {v:AV}
def Does (MC:Nat→Code→ACode→Prop) (P:Program) (B0:Nat) (a:Act) (o:Oper) (X:List Nat) (H:A2) (g:Ghost) (w:World) (v:AV) (H':A2):Prop :=
 ∃ x w' g',Gives ((execOp a.eval o).run P w) x w'∧V g' v x∧Rel MC P B0 H' g' w'∧Ext H g w H' g' w'∧H'.length=H.length ∧
  ∀ i,i ∉ X→g.L i=.none→g'.L i=.none
theorem Still.does (h:Still P a o w g v H H') (hR:Rel MC P B0 H g w) (X:List Nat):Does MC P B0 a o X H g w v H':= by
 obtain⟨rfl,x,hx,hV⟩:=h
 exact⟨x,w,g,.inl hx,hV,hR,Ext.refl _ _ _,Z,fun i _ h=>h⟩
theorem Rel.phi_lt (hR:Rel MC P B0 H g w) {β off:Nat} {u:Value} (h:g.Φ β off=some u):β<w.heap.size:= by
 have:=hR.phi β off u h
 exact World.block_lt_of_cell? w _ this
theorem Rel.phi_none (hR:Rel MC P B0 H g w) {β off:Nat} (h:w.heap.size≤β):g.Φ β off=none:= by
 cases hp:g.Φ β off with
 | none=>rfl
 | some u=>have:=hR.phi_lt hp;omega
theorem Rel.alloc (hR:Rel MC P B0 H g w) {i:Nat} (hi:i<H.length) (hn:g.L i=.none) (ob:Obj) {o':AO} {gb':GB} (hb:gb'.blk=some w.heap.size)
  (hbox:A0c MC P ⟨J0 g.L i gb',g.Φ,g.gl⟩ (w.alloc ob) o'.rd gb') :
  Rel MC P B0 (H.set i o') ⟨J0 g.L i gb',g.Φ,g.gl⟩ (w.alloc ob)∧Ext H g w (H.set i o') ⟨J0 g.L i gb',g.Φ,g.gl⟩ (w.alloc ob):= by
 refine hR.upd (o':=o') (gb':=gb') (Φ':=g.Φ) (w':=w.alloc ob) hi (.inr hn) Z Z Z (by simp) (fun β hβ _=>?_) (by rw[hn];trivial) (fun β hβ=>?_) (fun _ _ _ h=>h) (fun _ _ _ _=>rfl) (fun β off u h=>?_) hbox
 ·exact heap_alloc_old w ob β hβ
 ·rw[hb]at hβ;cases hβ
  exact⟨.inr (Zn _),by simp⟩
 ·rw[World.cell?_alloc_lt _ _ _ (hR.phi_lt h)]
  exact hR.phi β off u h
theorem Rel.bare (hR:Rel MC P B0 H g w) {i:Nat} (hi:i<H.length) (hn:g.L i=.none) {o':AO} {gb':GB} (hb:gb'.blk=none)
  (hbox:A0c MC P ⟨J0 g.L i gb',g.Φ,g.gl⟩ w o'.rd gb') :
  Rel MC P B0 (H.set i o') ⟨J0 g.L i gb',g.Φ,g.gl⟩ w∧Ext H g w (H.set i o') ⟨J0 g.L i gb',g.Φ,g.gl⟩ w:= by
 refine hR.upd (o':=o') (gb':=gb') (Φ':=g.Φ) (w':=w) hi (.inr hn) Z Z Z (Zn _) (fun β hβ _=>rfl) (by rw[hn];trivial) (fun β hβ=>?_) (fun _ _ _ h=>h) (fun _ _ _ _=>rfl) (fun β off u h=>hR.phi β off u h) hbox
 rw[hb]at hβ;cases hβ
theorem A8l {L:Nat→GB} {i j:Nat} {b:GB} (h:j≠i):J0 L i b j=L j:= by simp[J0,h]
theorem A7y {i:Nat} {X:List Nat} (hi:i∈X) (b:GB) (Φ:Nat→Nat→Option Value) {gl:C7v Φ}:∀j,j ∉ X→g.L j=.none→(⟨J0 g.L i b,Φ,gl⟩:Ghost).L j=.none:= by
 intro j hj hn
 have:j≠i:=fun e=>hj (e▸hi)
 simpa [J0,this] using hn
def Free (H:A2) (g:Ghost) (n0:Nat) (rs:List Nat):Prop:=∀ r∈rs,n0+r<H.length∧g.L (n0+r)=.none
theorem E5c {k r:Nat} (hm:D1 P o.op (.nil k r)=true) (hR:Rel MC P B0 H g w) (hF:Free H g n0 [r]) (h:prim c n0 s H (.nil k r)=some (v,H')):Does MC P B0 a o [n0+r] H g w v H':= by
 simp only[prim,Za,Zf]at h
 obtain⟨rfl,rfl⟩:=h
 obtain⟨hi,hn⟩:=hF r (by simp)
 simp only[D1]at hm
 have hk:0<k:= by
  split at hm <;> simp at hm
  ·exact hm.2
  ·exact hm.2
 have hx:∃x,o.op=.move x∨o.op=.assign x:= by
  split at hm
  ·exact⟨_,.inl ‹_›⟩
  ·exact⟨_,.inr ‹_›⟩
  ·cases hm
 have hrun:(execOp a.eval o).run P w=.ok (.value (.slice none 0 0)) w:= by
  split at hm
  ·next x hop =>
   simp at hm
   split at hm
   ·simp[execOp,hop,Act.eval]
   ·simp at hm
  ·next x hop =>
   simp at hm
   split at hm
   ·simp[execOp,hop,Act.eval]
   ·simp at hm
  ·cases hm
 have:=hR.bare hi hn (o':=.arr k false []) (gb':=.arr k (.slice none 0 0)) Z ⟨Z,hk,by simp,.inl ⟨Z,Z⟩⟩
 refine⟨_,_,_,.inl hrun,?_,this.1,this.2,by simp[hset],A7y (by simp) _ _⟩
 exact .asl _ _ k (.slice none 0 0) _ (by simp[J0]) (by simp[slen]) Z (fun _=>rfl)
theorem E49 {n r:Nat} {y:Opd} (hm:D1 P o.op (.box n y r)=true) (hR:Rel MC P B0 H g w) (hS:D7 g s a.tmps) (hF:Free H g n0 [r]) (h:prim c n0 s H (.box n y r)=some (v,H')):Does MC P B0 a o [n0+r] H g w v H':= by
 simp only[D1]at hm
 split at hm
 ·next e x hop =>
  simp at hm
  simp only[prim]at h
  split at h
  ·next p hp =>
   split at h
   ·next hn =>
    simp at h;obtain⟨rfl,rfl⟩:=h
    obtain⟨hi,hnn⟩:=hF r (by simp)
    have hlen:p.cellsOf.length=n:=Zk hn
    have hne:p.cellsOf≠[]:= by intro e;rw[e]at hlen;simp at hlen;omega
    have hV:=L6 hS hm.1 hp
    obtain⟨q1,q2⟩:=B7b hV hne
    have hle:g.le ⟨J0 g.L (n0+r) (.cells w.heap.size e),g.Φ,g.gl⟩:=⟨fun j=>by simp only[J0];split;(next e=>subst e;rw[hnn];trivial);exact GB.le_refl _,fun _ _ _ h=>h⟩
    have:=hR.alloc hi hnn (.cells (a.eval x).cells e) (o':=.cells p.cellsOf) (gb':=.cells w.heap.size e) Z
     ⟨_,heap_alloc_new w _,q1,fun j x hj=>let ⟨u,b1,b2,b3⟩:=q2 j x hj;⟨u,b1,b2.mono hle,b3⟩,fun off=>hR.phi_none (Zn _)⟩
    refine⟨_,_,_,.inl ?_,.ptr _ _ w.heap.size e (by simp[J0]),this.1,this.2,by simp[hset],A7y (by simp) _ _⟩
    simp[execOp,hop,Instr.box,newVar,newRow]
   ·cases h
  ·cases h
 ·cases hm
theorem E0t {r:Nat} (hm:D1 P o.op (.mkmap r)=true) (hR:Rel MC P B0 H g w) (hF:Free H g n0 [r]) (h:prim c n0 s H (.mkmap r)=some (v,H')):Does MC P B0 a o [n0+r] H g w v H':= by
 simp only[D1]at hm
 split at hm
 ·next t hop =>
  simp only[prim,Za,Zf]at h
  obtain⟨rfl,rfl⟩:=h
  obtain⟨hi,hnn⟩:=hF r (by simp)
  have:=hR.alloc hi hnn (.map #[] 0) (o':=.map []) (gb':=.map w.heap.size) Z ⟨#[],0,heap_alloc_new w _,Z,fun i e hi=>by simp at hi,Z,fun i m hi=>by simp at hi⟩
  refine⟨_,_,_,.inl ?_,.mp _ w.heap.size (by simp[J0]),this.1,this.2,by simp[hset],A7y (by simp) _ _⟩
  simp[execOp,hop,Instr.makeMap]
 ·cases hm
theorem E0u {x:Opd} {r:Nat} (hm:D1 P o.op (.range x r)=true) (hR:Rel MC P B0 H g w) (hS:D7 g s a.tmps) (hF:Free H g n0 [r]) (h:prim c n0 s H (.range x r)=some (v,H')):Does MC P B0 a o [n0+r] H g w v H':= by
 simp only[D1]at hm
 split at hm
 ·next t x' hop =>
  simp only[Zc]at hm
  obtain⟨h1,h2⟩:=hm
  split at h1
  ·next hu =>
   simp only[prim]at h
   split at h
   ·next b hp =>
    simp at h;obtain⟨rfl,rfl⟩:=h
    obtain⟨hi,hnn⟩:=hF r (by simp)
    have ex:=S5 (L6 hS h2 hp)
    have:=hR.alloc hi hnn (.stringIter b 0) (o':=.iter b 0) (gb':=.iter w.heap.size) Z (heap_alloc_new w _)
    refine⟨_,_,_,.inl ?_,.itr _ w.heap.size (by simp[J0]),this.1,this.2,by simp[hset],A7y (by simp) _ _⟩
    simp[execOp,hop,Instr.range,run_underlying hu,ex]
   ·cases h
  ·cases h1
 ·cases hm
theorem D70 {x:Opd} {r:Nat} (hm:D1 P o.op (.rangeM x r)=true) (hR:Rel MC P B0 H g w) (hS:D7 g s a.tmps) (hF:Free H g n0 [r]) (h:prim c n0 s H (.rangeM x r)=some (v,H')):Does MC P B0 a o [n0+r] H g w v H':= by
 simp only[D1]at hm
 split at hm
 ·next t x' hop =>
  simp only[Zc]at hm
  obtain⟨h1,h2⟩:=hm
  split at h1
  ·next kt et hu =>
   simp only[prim]at h
   split at h
   ·next b hp =>
    split at h
    ·next es hes =>
     simp at h;obtain⟨rfl,rfl⟩:=h
     obtain⟨hi,hnn⟩:=hF r (by simp)
     have hV:=L6 hS h2 hp
     obtain⟨βm,hLm,en,clock,q1,q2,q3,q4,q5⟩:=hR.map hes
     have hne:b≠n0+r:= by
      rintro rfl
      rw[hnn]at hLm;cases hLm
     generalize hev:a.eval x'=u at hV
     cases hV with
     | den _ _ hd=>cases hd
     | mp _ β hL =>
      rw[hLm]at hL;cases hL
      have hcl:clock=es.length:= by omega
      subst hcl
      have:=hR.alloc hi hnn (.mapIter (some βm) es.length #[] es.length) (o':=.mit b es.length []) (gb':=.iter w.heap.size) Z ⟨βm,by simp[J0,hne,hLm],heap_alloc_new w _⟩
      refine⟨_,_,_,.inl ?_,.itr _ w.heap.size (by simp[J0]),this.1,this.2,by simp[hset],A7y (by simp) _ _⟩
      simp[execOp,hop,Instr.range,run_underlying hu,hev,getObj,Sem.run,q1]
    ·cases h
   ·cases h
  ·cases h1
 ·cases hm
end
theorem B5b (cs:List AV) (o:Nat) (new:List AV) (h:o+new.length≤cs.length) (k:Nat) :
  (splice cs o new)[k]? = if k<o then cs[k]? else if k<o+new.length then new[k-o]? else cs[k]?:= by
 unfold splice
 rw[ZB,ZP]
 simp only[List.length_take,Nat.min_eq_left (show o≤cs.length by omega)]
 split
 ·next h1=>rw[ZO h1]
 ·next h1 =>
  rw[ZP]
  split
  ·next h2=>rw[if_pos (by omega)]
  ·next h2 =>
   rw[if_neg (by omega),ZV]
   congr 1;omega
theorem B5c (cs:List AV) (o:Nat) (new:List AV) (h:o+new.length≤cs.length):(splice cs o new).length=cs.length:= by
 simp[splice];omega
theorem C40 (off:Nat):∀(l:List Value) (st:Nat) (cells:Array Value),
  ((l.zipIdx st).foldl (fun cs (x:Value×Nat)=>cs.setIfInBounds (off+x.2) x.1) cells).size=cells.size ∧
  ∀ k,((l.zipIdx st).foldl (fun cs (x:Value×Nat)=>cs.setIfInBounds (off+x.2) x.1) cells)[k]? = if off+st≤k∧k<off+st+l.length∧k<cells.size then l[k-(off+st)]? else cells[k]?
 | [],st,cells=>by
  refine⟨Z,fun k=>?_⟩
  simp
  intro h1 h2;omega
 | v::l,st,cells=>by
  obtain⟨h1,h2⟩:=C40 off l (st+1) (cells.setIfInBounds (off+st) v)
  simp only[List.zipIdx_cons,List.foldl_cons]
  refine⟨by rw[h1];simp,fun k=>?_⟩
  rw[h2 k]
  simp only[Array.size_setIfInBounds,ZT]
  by_cases e:k=off+st
  ·subst e
   rw[if_neg (by omega)]
   rw[Array.getElem?_setIfInBounds]
   simp only[if_true]
   by_cases hk:off+st<cells.size
   ·rw[if_pos hk,if_pos ⟨by omega,by omega,hk⟩];simp
   ·rw[if_neg hk,if_neg (by omega)];simp[hk]
  ·rw[Array.getElem?_setIfInBounds_ne (by omega)]
   by_cases h3:off+(st+1)≤k∧k<off+(st+1)+l.length∧k<cells.size
   ·rw[if_pos h3,if_pos (by omega)]
    rw[show k-(off+st)=(k-(off+(st+1)))+1 by omega,List.getElem?_cons_succ]
   ·rw[if_neg h3,if_neg (by omega)]
section
variable {g:Ghost}
theorem C91 (cells:Array Value) (off:Nat) (vs:Array Value) (h:off+vs.size≤cells.size) :
  ∀ r,r=vs.zipIdx.foldl (fun cs (x:Value×Nat)=>cs.setIfInBounds (off+x.2) x.1) cells →
  r.size=cells.size∧∀ k,r[k]? = if k<off then cells[k]? else if k<off+vs.size then vs[k-off]? else cells[k]?:= by
 intro r hr
 rw[← Array.foldl_toList,Array.toList_zipIdx]at hr
 have:=C40 off vs.toList 0 cells
 rw[← hr]at this
 refine⟨this.1,fun k=>?_⟩
 rw[this.2 k]
 simp only[Z1e,Z0i]
 by_cases h1:k<off
 ·rw[if_neg (by omega),if_pos h1]
 ·rw[if_neg h1]
  by_cases h2:k<off+vs.size
  ·rw[if_pos (by omega),if_pos h2];simp
  ·rw[if_neg (by omega),if_neg h2]
theorem B7h (place:Nat→Option (Nat×Nat)):∀(ps:List (Nat×Value)) (qs:List (Nat×Nat×AV)) (cells:Array Value) (cs cs':List AV),V9 g cs cells→B1l cs qs=some cs' →
  ps.length=qs.length→(∀ (j:Nat) (q:Nat×Nat×AV),qs[j]? = some q→∃ p,ps[j]? = some p∧place p.1=some (q.1,q.2.1)∧V g q.2.2 p.2) →
  ∃ cells',Instr.fill place cells ps=some cells'∧V9 g cs' cells'
 | [],[],cells,cs,cs',hC,h,_,_=>by simp[B1l]at h;subst h;exact⟨cells,Z,hC⟩
 | [],_::_,_,_,_,_,_,hl,_=>by simp at hl
 | _::_,[],_,_,_,_,_,hl,_=>by simp at hl
 | p::ps,q::qs,cells,cs,cs',hC,h,hl,hq=>by
  obtain⟨off,n,x⟩:=q
  obtain⟨p',h0,h1,h2⟩:=hq 0 _ Z
  simp at h0;subst h0
  obtain⟨i,v⟩:=p
  simp only at h1 h2
  simp only[B1l]at h
  split at h
  ·next hc =>
   simp only[Zc]at hc
   obtain⟨⟨c1,c2⟩,c3⟩:=hc
   have c1':x.cellsOf.length=n:=Zk c1
   have c2':off+n≤cs.length:=Zp c2
   have c3':0<n:=Zp c3
   have hne:x.cellsOf≠[]:= by intro e;rw[e]at c1'; simp at c1'; omega
   obtain⟨q1,q2⟩:=B7b h2 hne
   obtain⟨r1,r2⟩:=C91 cells off v.cells (by rw[q1,hC.1];omega) _ Z
   have hC':V9 g (splice cs off x.cellsOf) (v.cells.zipIdx.foldl (fun cs (x:Value×Nat)=>cs.setIfInBounds (off+x.2) x.1) cells):= by
    refine⟨by rw[r1,B5c _ _ _ (by omega),hC.1],fun j y hj=>?_⟩
    rw[B5b _ _ _ (by omega)]at hj
    rw[r2 j]
    split at hj
    ·next h3=>rw[if_pos h3];exact hC.2 j y hj
    ·next h3 =>
     rw[if_neg h3]
     split at hj
     ·next h4=>rw[if_pos (by omega)];exact q2 _ y hj
     ·next h4=>rw[if_neg (by omega)];exact hC.2 j y hj
   obtain⟨cells',e1,e2⟩:=B7h place ps qs _ _ cs' hC' h (by simpa using hl) (fun j q hj=>by simpa using hq (j+1) q (by simpa using hj))
   refine⟨cells',?_,e2⟩
   unfold Instr.fill
   rw[h1]
   simp only
   have hg:¬ ((v.cells.size≠n||off+v.cells.size>cells.size)=true):= by
    have:=hC.1
    simp;omega
   rw[if_neg hg]
   exact e1
  ·cases h
def C70 (g:Ghost) (k:Nat) (rows:List (List AV)) (vs:Array Value):Prop :=
 vs.size=rows.length*k∧(∀ r∈rows,r.length=k) ∧
 ∀ (i:Nat) (r:List AV) (j:Nat) (x:AV),rows[i]? = some r→r[j]? = some x→∃ u,vs[i*k+j]? = some u∧V g x u∧u.oneCell'=true
theorem O3 {i n k:Nat} (h:i<n):i*k+k≤n*k:= by
 have:(i+1)*k≤n*k:=ZQ k h
 rwa [Z21,Nat.one_mul]at this
theorem divide {i j i' j' k:Nat} (hj:j<k) (hj':j'<k) (h:i*k+j=i' * k+j'):i=i'∧j=j':= by
 rcases Nat.lt_trichotomy i i' with h1|h1|h1
 ·have:=O3 (k:=k) h1;omega
 ·subst h1;exact⟨Z,by omega⟩
 ·have:=O3 (k:=k) h1;omega
theorem C1i (k:Nat) (hk:0<k):∀(ps:List (Nat×Value)) (qs:List (Nat×AV)) (cells:Array Value) (rows rows':List (List AV)),C70 g k rows cells→A5c k rows qs=some rows' →
  ps.length=qs.length→(∀ (j:Nat) (q:Nat×AV),qs[j]? = some q→∃ p,ps[j]? = some p∧p.1=q.1∧V g q.2 p.2) →
  ∃ cells',Instr.fill (fun i=>some (i*k,k)) cells ps=some cells'∧C70 g k rows' cells'∧rows'.length=rows.length
 | [],[],cells,cs,cs',hC,h,_,_=>by simp[A5c]at h;subst h;exact⟨cells,Z,hC,Z⟩
 | [],_::_,_,_,_,_,_,hl,_=>by simp at hl
 | _::_,[],_,_,_,_,_,hl,_=>by simp at hl
 | p::ps,q::qs,cells,rows,rows',hC,h,hl,hq=>by
  obtain⟨i,x⟩:=q
  obtain⟨p',h0,h1,h2⟩:=hq 0 _ Z
  simp at h0;subst h0
  obtain⟨i',v⟩:=p
  simp only at h1 h2
  subst h1
  simp only[A5c]at h
  split at h
  ·next hc =>
   simp only[Zc]at hc
   obtain⟨c1,c2⟩:=hc
   have c1':x.cellsOf.length=k:=Zk c1
   have c2':i'<rows.length:=Zp c2
   have hne:x.cellsOf≠[]:= by intro e;rw[e]at c1'; simp at c1'; omega
   obtain⟨q1,q2⟩:=B7b h2 hne
   obtain⟨hC1,hC2,hC3⟩:=hC
   have hb:=O3 (k:=k) c2'
   obtain⟨r1,r2⟩:=C91 cells (i' * k) v.cells (by omega) _ Z
   have hC':C70 g k (rows.set i' x.cellsOf) (v.cells.zipIdx.foldl (fun cs (x:Value×Nat)=>cs.setIfInBounds (i' * k+x.2) x.1) cells):= by
    refine⟨by rw[r1,hC1];simp,fun r hr=>?_,fun m r j y hm hj=>?_⟩
    ·rcases Z2r hr with h3|h3
     ·exact hC2 r h3
     ·rw[h3];exact c1'
    ·rw[r2]
     rw[ZJ]at hm
     by_cases e:i'=m
     ·subst e
      rw[if_pos Z,if_pos c2']at hm
      cases hm
      have hjk:j<k:= by have:=(Ze.1 hj).1;omega
      rw[if_neg (by omega),if_pos (by omega),show i' * k+j-i' * k=j by omega]
      exact q2 j y hj
     ·rw[if_neg e]at hm
      have hrk:=hC2 r (Zw hm)
      have hjk:j<k:= by have:=(Ze.1 hj).1;omega
      have:=hC3 m r j y hm hj
      by_cases h4:m*k+j<i' * k
      ·rw[if_pos h4];exact this
      ·rw[if_neg h4,if_neg]
       ·exact this
       ·intro h5
        have:=divide (k:=k) hjk (show m*k+j-i' * k<k by omega) (show m*k+j=i' * k+(m*k+j-i' * k) by omega)
        omega
   obtain⟨cells',e1,e2,e3⟩:=C1i k hk ps qs _ _ rows' hC' h (by simpa using hl) (fun j q hj=>by simpa using hq (j+1) q (by simpa using hj))
   refine⟨cells',?_,e2,by rw[e3];simp⟩
   unfold Instr.fill
   simp only
   have hg:¬ ((v.cells.size≠k||i' * k+v.cells.size>cells.size)=true):= by
    simp;omega
   rw[if_neg hg]
   exact e1
  ·cases h
theorem B8i {k n:Nat} {z:Array Value} {zs:List AV} (hz:V9 g zs z) (hk:zs.length=k) (hpos:0<k) :
  C70 g k (Zv n zs) ((Z4j (n*k)).map (z[· % z.size]!)):= by
 refine⟨by simp,fun r hr=>by rw[(Z1i.1 hr).2,hk],fun i r j x hi hj=>?_⟩
 have hr:r=zs:=(Z1i.1 (Zw hi)).2
 subst hr
 have hin:i<n:= by have:=(Ze.1 hi).1;simpa using this
 have hjk:j<k:= by have:=(Ze.1 hj).1;omega
 obtain⟨u,hu,r⟩:=hz.2 j x hj
 refine⟨u,?_,r⟩
 have hb:=O3 (k:=k) hin
 have hlt:i*k+j<n*k:= by omega
 have hsz:z.size=k:= by rw[hz.1,hk]
 have hmod:(i*k+j) % z.size=j:= by rw[hsz,Z2u,Z3u,Z33 hjk]
 rw[Z28,Array.getElem?_range,if_pos hlt]
 simp only[Zb,hmod]
 rw[Array.getElem!_eq_getD,Array.getD_eq_getD_getElem?,hu]
 rfl
end
section
variable {MC:Nat→Code→ACode→Prop} {P:Program} {B0:Nat} {c:Sc} {n0:Nat} {H H':A2} {g:Ghost} {w:World} {s:C2} {a:Act} {o:Oper} {v:AV}
theorem A6t {t:TypeId} {zs:List AV} (h:A9t P t zs=true) (g:Ghost):∃i z,P.info? t=some i∧i.zero=some z∧V9 g zs z.cells∧P.cellsOf t=zs.length:= by
 unfold A9t at h
 split at h
 ·next z hz =>
  simp only[Zc]at h
  obtain⟨⟨h1,h2⟩,h3⟩:=h
  cases hi:P.info? t with
  | none=>simp[hi]at hz
  | some i=>exact⟨i,z,Z,by simpa [hi] using hz,C3x g h1 h3,by simpa using h2⟩
 ·cases h
theorem B7f (hS:D7 g s a.tmps) (place:Nat→Option (Nat×Nat)):∀(ps:List (Nat×Operand)) (qs:List (Nat×Nat×Opd)) (rs:List (Nat×Nat×AV)),V0 s qs=some rs→ps.length=qs.length →
  (∀ (j:Nat) (q:Nat×Nat×Opd),qs[j]? = some q→∃ p,ps[j]? = some p∧place p.1=some (q.1,q.2.1)∧D5 p.2 q.2.2=true) →
  ps.length=rs.length∧∀ (j:Nat) (q:Nat×Nat×AV),rs[j]? = some q→∃ p,(ps.map fun x=>(x.1,a.eval x.2))[j]? = some p∧place p.1=some (q.1,q.2.1)∧V g q.2.2 p.2
 | [],[],rs,h,_,_=>by simp[V0]at h;subst h;exact⟨Z,fun j q hj=>by simp at hj⟩
 | [],_::_,_,_,hl,_=>by simp at hl
 | _::_,[],_,_,hl,_=>by simp at hl
 | p::ps,q::qs,rs,h,hl,hq=>by
  obtain⟨off,n,x⟩:=q
  simp only[V0]at h
  cases hx:ev s x with
  | none=>simp[hx]at h
  | some u =>
   cases hr:V0 s qs with
   | none=>simp[hx,hr]at h
   | some r =>
    simp[hx,hr]at h;subst h
    obtain⟨p',e0,e1,e2⟩:=hq 0 _ Z
    simp at e0;subst e0
    obtain⟨l1,l2⟩:=B7f hS place ps qs r hr (by simpa using hl) (fun j q hj=>by simpa using hq (j+1) q (by simpa using hj))
    refine⟨by simp[l1],fun j q hj=>?_⟩
    cases j with
    | zero=>simp at hj;subst hj;exact⟨_,Z,e1,L6 hS e2 hx⟩
    | succ j=>simp at hj;simpa using l2 j q hj
theorem B9a {fs:Array Field}:∀(ps:List (Nat×Operand)) (qs:List (Nat×Nat×Opd)),B8c P fs ps qs=true→ps.length=qs.length ∧
  ∀ (j:Nat) (q:Nat×Nat×Opd),qs[j]? = some q→∃ p,ps[j]? = some p∧((fs[p.1]?).map fun f=>(f.offset,P.cellsOf f.type))=some (q.1,q.2.1)∧D5 p.2 q.2.2=true
 | [],[],_=>⟨Z,fun j q hj=>by simp at hj⟩
 | [],_::_,h=>by simp[B8c]at h
 | _::_,[],h=>by simp[B8c]at h
 | p::ps,q::qs,h=>by
  simp only[B8c,Zc]at h
  obtain⟨⟨h1,h2⟩,h3⟩:=h
  obtain⟨l1,l2⟩:=B9a ps qs h3
  refine⟨by simp[l1],fun j q' hj=>?_⟩
  cases j with
  | zero =>
   simp at hj;subst hj
   refine⟨p,Z,?_,h2⟩
   split at h1
   ·next f hf=>simp at h1;simp[hf,h1]
   ·cases h1
  | succ j=>simp at hj;simpa using l2 j q' hj
theorem B88 {k:Nat}:∀(ps:List (Nat×Operand)) (qs:List (Nat×Nat×Opd)),B8b k ps qs=true→ps.length=qs.length ∧
  ∀ (j:Nat) (q:Nat×Nat×Opd),qs[j]? = some q→∃ p,ps[j]? = some p∧some (p.1*k,k)=some (q.1,q.2.1)∧D5 p.2 q.2.2=true
 | [],[],_=>⟨Z,fun j q hj=>by simp at hj⟩
 | [],_::_,h=>by simp[B8b]at h
 | _::_,[],h=>by simp[B8b]at h
 | p::ps,q::qs,h=>by
  simp only[B8b,Zc]at h
  obtain⟨⟨⟨h1,h1'⟩,h2⟩,h3⟩:=h
  obtain⟨l1,l2⟩:=B88 ps qs h3
  refine⟨by simp[l1],fun j q' hj=>?_⟩
  cases j with
  | zero =>
   simp at hj;subst hj
   refine⟨p,Z,?_,h2⟩
   have e1:p.1*k=q.1:= by simpa using h1
   have e2:q.2.1=k:= by simpa using h1'
   rw[e1,← e2]
  | succ j=>simp at hj;simpa using l2 j q' hj
theorem C1f (hS:D7 g s a.tmps) {n:Nat}:∀(ps:List (Nat×Operand)) (qs:List (Nat×Opd)) (rs:List (Nat×AV)),M6 s qs=some rs→B46 n ps qs=true →
  ps.length=rs.length∧∀ (j:Nat) (q:Nat×AV),rs[j]? = some q→∃ p,(ps.map fun x=>(x.1,a.eval x.2))[j]? = some p∧p.1=q.1∧V g q.2 p.2
 | [],[],rs,h,_=>by simp[M6]at h;subst h;exact⟨Z,fun j q hj=>by simp at hj⟩
 | [],_::_,_,_,hm=>by simp[B46]at hm
 | _::_,[],_,_,hm=>by simp[B46]at hm
 | p::ps,q::qs,rs,h,hm=>by
  simp only[B46,Zc]at hm
  obtain⟨⟨⟨m1,m2⟩,m3⟩,m4⟩:=hm
  obtain⟨i,x⟩:=q
  simp only[M6]at h
  cases hx:ev s x with
  | none=>simp[hx]at h
  | some u =>
   cases hr:M6 s qs with
   | none=>simp[hx,hr]at h
   | some r =>
    simp[hx,hr]at h;subst h
    obtain⟨l1,l2⟩:=C1f hS ps qs r hr m4
    refine⟨by simp[l1],fun j q hj=>?_⟩
    cases j with
    | zero=>simp at hj;subst hj;exact⟨_,Z,by simpa using m1,L6 hS m3 hx⟩
    | succ j=>simp at hj;simpa using l2 j q hj
theorem D0d {α β:Type} {f:α→Sem β} {h:α→β} {w:World}:∀(l:List α),(∀ x∈l,(f x).run P w=.ok (h x) w)→(l.mapM f).run P w=.ok (l.map h) w
 | [],_=>by simp
 | x::l,hx=>by
  rw[List.mapM_cons]
  simp only[Sem.run_bind,hx x (by simp),Result.andThen_ok,D0d l (fun y hy=>hx y (by simp[hy]))]
  rfl
theorem E1h {z:List AV} {qs:List (Nat×Nat×Opd)} (hm:D1 P o.op (.build z qs)=true) (hS:D7 g s a.tmps) (h:prim c n0 s H (.build z qs)=some (v,H')):Still P a o w g v H H':= by
 simp only[D1]at hm
 split at hm
 ·next t ps hop =>
  simp only[Zc]at hm
  obtain⟨h1,h2⟩:=hm
  obtain⟨i,zv,hi,hz,hC,hk⟩:=A6t h1 g
  simp only[prim]at h
  cases hp:V0 s qs with
  | none=>simp[hp]at h
  | some rs =>
   cases hf:B1l z rs with
   | none=>simp[hp,hf]at h
   | some cs =>
    simp[hp,hf]at h;obtain⟨rfl,rfl⟩:=h
    have fin:∀cells',(Instr.build t (ps.map fun (i,x)=>(i,a.eval x))).run P w=.ok (.agg cells') w→V9 g cs cells'→Still P a o w g (.agg cs) H H:= by
     intro cells' hr hV
     refine⟨Z,.agg cells',by simp[execOp,hop,hr],?_⟩
     exact .agg _ _ hV.1 (fun j x hj=>let ⟨u,e1,e2,_⟩:=hV.2 j x hj;by simpa [e1] using e2) (fun j x hj=>let ⟨u,e1,_,e3⟩:=hV.2 j x hj;by simpa [e1] using e3)
    have hzr:(zeroValue t).run P w=.ok zv w:= by simp[zeroValue,typeInfo,hi,hz]
    have hlist:(ps.map fun (i,x)=>(i,a.eval x)).toList=ps.toList.map fun x=>(x.1,a.eval x.2):= by simp
    split at h2
    ·next fs hu =>
     simp only[Zc]at h2
     obtain⟨h3,h4⟩:=h2
     obtain⟨l1,l2⟩:=B9a _ _ h4
     obtain⟨m1,m2⟩:=B7f hS (fun i=>(fs[i]?).map fun f=>(f.offset,P.cellsOf f.type)) _ _ _ hp l1 l2
     obtain⟨cells',e1,e2⟩:=B7h (fun i=>(fs[i]?).map fun f=>(f.offset,P.cellsOf f.type)) (ps.toList.map fun x=>(x.1,a.eval x.2)) rs _ _ cs hC hf (by rw[Zi];exact m1) m2
     refine fin cells' ?_ e2
     have hpl:(fs.mapM fun f=>(do pure (f.offset,← Go.sizeOf f.type):Sem (Nat×Nat))).run P w=.ok (fs.map fun f=>(f.offset,P.cellsOf f.type)) w:= by
      rw[Array.mapM_eq_mapM_toList]
      have:=D0d (P:=P) (w:=w) (f:=fun f:Field=>(do pure (f.offset,← Go.sizeOf f.type):Sem (Nat×Nat))) (h:=fun f=>(f.offset,P.cellsOf f.type)) fs.toList (fun f hf=>by
       have:=Zq.1 h3 f hf
       simp[M4 (M3 this)])
      simp only[Sem.run_map,this,Result.andThen_ok]
      congr 1
      apply Z2v
      simp
     have e1':Instr.fill (fun i=>(fs.map fun f=>(f.offset,P.cellsOf f.type))[i]?) zv.cells (ps.toList.map fun x=>(x.1,a.eval x.2))=some cells':= by
      rw[← e1];congr 1;funext i;simp
     simp only[Instr.build,Sem.run_bind,hzr,Result.andThen_ok,run_underlying hu,hpl,hlist,e1']
     rfl
    ·next n e hu =>
     simp only[Zc]at h2
     obtain⟨h3,h4⟩:=h2
     obtain⟨l1,l2⟩:=B88 _ _ h4
     obtain⟨m1,m2⟩:=B7f hS (fun i=>some (i*P.cellsOf e,P.cellsOf e)) _ _ _ hp l1 l2
     obtain⟨cells',e1,e2⟩:=B7h (fun i=>some (i*P.cellsOf e,P.cellsOf e)) (ps.toList.map fun x=>(x.1,a.eval x.2)) rs _ _ cs hC hf (by rw[Zi];exact m1) m2
     refine fin cells' ?_ e2
     simp only[Instr.build,Sem.run_bind,hzr,Result.andThen_ok,run_underlying hu,M4 (M3 h3),hlist,e1]
     rfl
    ·cases h2
 ·cases hm
theorem B7i (hR:Rel MC P B0 H g w) (cur:Array Value):∀β o v,g.Φ β o=some v→(fun β o=>if β=w.heap.size then cur[o]? else g.Φ β o) β o=some v :=
 fun β off u h=>by have:=hR.phi_lt h;simp only;rw[if_neg (by omega)];exact h
theorem Rel.frozen (hR:Rel MC P B0 H g w) (cur:Array Value) (e:TypeId) :
  Rel MC P B0 H ⟨g.L,fun β o=>if β=w.heap.size then cur[o]? else g.Φ β o,g.gl.mono (B7i hR cur)⟩ (w.alloc (.cells cur e)) ∧
  Ext H g w H ⟨g.L,fun β o=>if β=w.heap.size then cur[o]? else g.Φ β o,g.gl.mono (B7i hR cur)⟩ (w.alloc (.cells cur e)):= by
 have hle:g.le ⟨g.L,fun β o=>if β=w.heap.size then cur[o]? else g.Φ β o,g.gl.mono (B7i hR cur)⟩ :=
  ⟨fun _=>GB.le_refl _,fun β off u h=>by have:=hR.phi_lt h;simp only;rw[if_neg (by omega)];exact h⟩
 refine⟨⟨?_,?_,hR.inj,?_,hR.nolive,?_⟩,⟨Zn _,Z,Z,Z,by simp,hle,fun _ _ h=>.inl h,fun _ _ _ _ _=>rfl,fun i o h k=>.inr ⟨o,h,k⟩,?_⟩⟩
 ·intro β off u h
  simp only at h
  split at h
  ·next e'=>subst e'; simp[h]
  ·rw[World.cell?_alloc_lt _ _ _ (hR.phi_lt h)];exact hR.phi β off u h
 ·intro i β h
  obtain⟨h1,h2⟩:=hR.base i β h
  exact⟨h1,by simp;omega⟩
 ·intro i o hi
  refine(hR.box i o hi).mono hle (fun β hb=>?_)
  have:=(hR.base i β hb).2
  exact⟨heap_alloc_old w _ β this,fun off=>by simp only;rw[if_neg (by omega)]⟩
 ·simp;have:=hR.b0;omega
 ·intro β hβ _
  exact⟨heap_alloc_old w _ β hβ,fun off=>by simp only;rw[if_neg (by omega)]⟩
theorem B3f {x:AV} {u:Value} (hx:x.frz=true) (h:V g x u):Den g.Φ x u:= by
 cases h with
 | den _ _ hd=>exact hd
 | _=>simp[AV.frz]at hx
theorem C1p {rows:List (List AV)} (h:B5y rows=true) {i j:Nat} {r:List AV} {x:AV} (hi:rows[i]? = some r) (hj:r[j]? = some x):x.frz=true:= by
 have h1:=Zq.1 h r (Zw hi)
 exact Zq.1 h1 x (Zw hj)
theorem D0c {t e:TypeId} {k n:Nat} {z:List AV} {ps:Array (Nat×Operand)} {qs:List (Nat×Opd)} {rs:List (Nat×AV)} {rows:List (List AV)} (hsl:A1r P t=some e) (hk:P.cellsOf e=k)
  (hz:A9t P e z=true) (hpos:0<k) (hle:n*k≤2 ^ 24) (hm:B46 n ps.toList qs=true) (hS:D7 g s a.tmps) (hp:M6 s qs=some rs) (hf:A5c k (Zv n z) rs=some rows) (w:World) :
  ∃ cur:Array Value,(Instr.buildSlice t n (ps.map fun (i,x)=>(i,a.eval x))).run P w=.ok (.slice (some ⟨w.heap.size,0,none⟩) n n) (w.alloc (.cells cur e))∧C70 g k rows cur∧rows.length=n:= by
 have hu:=S9 hsl
 obtain⟨i,zv,hi,hz',hC,hkz⟩:=A6t hz g
 obtain⟨m1,m2⟩:=C1f hS _ _ _ hp hm
 have hrz:=B8i (n:=n) hC (by omega) hpos
 obtain⟨cur,e1,e2,e3⟩:=C1i k hpos (ps.toList.map fun x=>(x.1,a.eval x.2)) rs _ _ rows hrz hf (by rw[Zi];exact m1) m2
 refine⟨cur,?_,e2,by rw[e3];simp⟩
 have hlist:(ps.map fun (i,x)=>(i,a.eval x)).toList=ps.toList.map fun x=>(x.1,a.eval x.2):= by simp
 have hzr:(zeroValue e).run P w=.ok zv w:= by simp[zeroValue,typeInfo,hi,hz']
 have hsz:(Go.sizeOf e).run P w=.ok k w:= by rw[M4 (by simp[hi]),hk]
 have hng:¬ n*k>2 ^ 24:= by omega
 by_cases h0:n*k=0
 ·have hn0:n=0:= by rcases Nat.mul_eq_zero.1 h0 with h|h <;> omega
  subst hn0
  have:((Z4j (0*k)).map (zv.cells[· % zv.cells.size]!)) = #[]:= by simp
  rw[this]at e1
  have h0':0*k=0:= by simp
  simp only[Instr.buildSlice,Sem.run_bind,run_underlying hu,Result.andThen_ok,hsz,if_neg hng,if_pos h0',Sem.run_pure,hlist]
  have hr0:Z4j (0*k) = #[]:= by simp
  simp only[hr0,Array.map_empty,e1]
  simp[newRow]
  try rfl
 ·simp only[Instr.buildSlice,Sem.run_bind,run_underlying hu,Result.andThen_ok,hsz,if_neg hng,if_neg h0,hzr,Sem.run_pure,hlist,e1]
  simp[newRow]
  try rfl
theorem E22 {k n:Nat} {z:List AV} {qs:List (Nat×Opd)} {own:Option Nat} (hm:D1 P o.op (.lits k z n qs own)=true) (hR:Rel MC P B0 H g w) (hS:D7 g s a.tmps) (hF:Free H g n0 (F6 (.lits k z n qs own)))
  (h:prim c n0 s H (.lits k z n qs own)=some (v,H')):Does MC P B0 a o ((F6 (.lits k z n qs own)).map (n0 + ·)) H g w v H':= by
 simp only[D1]at hm
 split at hm
 ·next t n' ps hop =>
  split at hm
  ·next e hsl =>
   simp only[Zc]at hm
   obtain⟨⟨⟨⟨⟨h1,h2⟩,h3⟩,h4⟩,h5⟩,h6⟩:=hm
   have e3:n'=n:= by simpa using h3
   subst e3
   have hpos:0<k:= by simpa using h4
   simp only[prim]at h
   cases hp:M6 s qs with
   | none=>simp[hp]at h
   | some rs =>
    cases hf:A5c k (Zv n' z) rs with
    | none=>simp[hp,hf]at h
    | some rows =>
     simp only[hp,hf,Option.bind_some]at h
     split at h
     ·next hfr =>
      obtain⟨cur,hrun,⟨q1,q2,q3⟩,hlen⟩:=D0c (a:=a) hsl (by simpa using h1) h2 hpos (by simpa using h5) h6 hS hp hf w
      have hex:(execOp a.eval o).run P w=.ok (.value (.slice (some ⟨w.heap.size,0,none⟩) n' n')) (w.alloc (.cells cur e)):= by
       simp[execOp,hop,hrun]
      cases own with
      | none =>
       simp at h;obtain⟨rfl,rfl⟩:=h
       obtain⟨r1,r2⟩:=hR.frozen cur e
       refine⟨_,_,_,.inl hex,?_,r1,r2,Z,fun i _ h=>h⟩
       refine .den _ _ ?_
       rw[← hlen]
       refine .seq _ _ _ _ (fun i j=>(cur[i*k+j]?).getD undef) Z (Zn _) q2 (fun i r j x hi hj=>?_) (fun i r j x hi hj=>?_)
       all_goals obtain⟨u,hu,hV,ho⟩:=q3 i r j x hi hj
       ·simp[hu]
       ·simp only[hu,ZW]
        exact(B3f (C1p hfr hi hj) hV).mono r2.le.Φ
      | some r =>
       simp at h;obtain⟨rfl,rfl⟩:=h
       obtain⟨hi0,hnn⟩:=hF r (by simp[F6])
       have:=hR.alloc hi0 hnn (.cells cur e) (o':=.arr k false rows) (gb':=.arr k (.slice (some ⟨w.heap.size,0,none⟩) n' n')) Z
        ⟨Z,hpos,q2,.inr ⟨w.heap.size,n',e,cur,by rw[hlen],by omega,?_,heap_alloc_new w _,by rw[q1,hlen],fun i r j x hi hj=>?_,fun _ off=>hR.phi_none (Zn _),by simp⟩⟩
       ·refine⟨_,_,_,.inl hex,?_,this.1,this.2,by simp[hset],A7y (by simp[F6]) _ _⟩
        exact .asl _ _ k _ _ (by simp[J0]) (by simp[slen]) Z (fun _=>rfl)
       ·have:n' * k≤16777216:= by simpa using h5
        have:n'≤n' * k:=Nat.le_mul_of_pos_right _ hpos
        simp only[maxLen];omega
       ·obtain⟨u,hu,hV,ho⟩:=q3 i r j x hi hj
        exact⟨u,hu,show Den g.Φ x u from B3f (C1p hfr hi hj) hV⟩
     ·cases h
  ·cases hm
 ·cases hm
theorem E0w {k n:Nat} {z:List AV} {qs:List (Nat×Opd)} (hm:D1 P o.op (.xlits k z n qs)=true) (hR:Rel MC P B0 H g w) (hS:D7 g s a.tmps)
  (h:prim c n0 s H (.xlits k z n qs)=some (v,H')):Does MC P B0 a o [] H g w v H':= by
 simp only[D1]at hm
 split at hm
 ·next t n' ps hop =>
  split at hm
  ·next e hsl =>
   simp only[Zc]at hm
   obtain⟨⟨⟨⟨⟨h1,h2⟩,h3⟩,h4⟩,h5⟩,h6⟩:=hm
   have e3:n'=n:= by simpa using h3
   subst e3
   have hpos:0<k:= by simpa using h4
   simp only[prim]at h
   cases hp:M6 s qs with
   | none=>simp[hp]at h
   | some rs =>
    cases hf:A5c k (Zv n' z) rs with
    | none=>simp[hp,hf]at h
    | some rows =>
     simp[hp,hf]at h;obtain⟨rfl,rfl⟩:=h
     obtain⟨cur,hrun,⟨q1,q2,q3⟩,hlen⟩:=D0c (a:=a) hsl (by simpa using h1) h2 hpos (by simpa using h5) h6 hS hp hf w
     have hex:(execOp a.eval o).run P w=.ok (.value (.slice (some ⟨w.heap.size,0,none⟩) n' n')) (w.alloc (.cells cur e)):= by
      simp[execOp,hop,hrun]
     obtain⟨r1,r2⟩:=hR.frozen cur e
     refine⟨_,_,_,.inl hex,?_,r1,r2,Z,fun i _ h=>h⟩
     rw[← hlen]
     refine .xseq _ _ _ _ (fun i j=>(cur[i*k+j]?).getD undef) Z (Zn _) q2 (fun i r j x hi hj=>?_) (fun i r j x hi hj=>?_) (fun i r j x hi hj=>?_)
     all_goals obtain⟨u,hu,hV,ho⟩:=q3 i r j x hi hj
     ·simp[hu]
     ·simp only[hu,ZW];exact hV.mono r2.le
     ·simpa only[hu,ZW] using ho
  ·cases hm
 ·cases hm
end
section
variable {MC:Nat→Code→ACode→Prop} {P:Program} {B0:Nat} {c:Sc} {n0:Nat} {H H':A2} {g:Ghost} {w:World} {s:C2} {a:Act} {o:Oper} {v:AV}
theorem B5a {k:Nat} {rows:List (List AV)} {v0:Value} (h:A0c MC P g w (.arr k true rows) (.arr k v0)):Den g.Φ (.seq k rows) v0:= by
 obtain⟨_,hk,hlen,h0⟩:=h
 rcases h0 with⟨rfl,rfl⟩|⟨β,cp,e,cur,rfl,h5,h6,h7,h8,h9,h10,h11⟩
 ·exact .seq0 _ _ _
 ·obtain⟨p1,p2⟩:=h11 Z
  refine .seq _ _ _ _ (fun i j=>(cur[i*k+j]?).getD undef) Z h5 hlen (fun i r j x hi hj=>?_) (fun i r j x hi hj=>?_)
  all_goals obtain⟨u,hu,hd⟩:=h9 i r j x hi hj
  ·have hin:i<rows.length:=(Ze.1 hi).1
   have hjk:j<k:= by have h1:=(Ze.1 hj).1;have h2:=hlen r (Zw hi);omega
   have:=O3 (k:=k) hin
   simp only[Z1d,hu,ZW]
   rw[p1 _ (by omega),hu]
  ·simpa only[hu,ZW] using hd
theorem Rel.publish (hR:Rel MC P B0 H g w) {b k:Nat} {rows:List (List AV)} (hb:H[b]? = some (.arr k false rows)) {v0:Value} (hL:g.L b=.arr k v0) :
  ∃ g',Rel MC P B0 (H.set b (.arr k true rows)) g' w∧Ext H g w (H.set b (.arr k true rows)) g' w∧g'.L=g.L∧Den g'.Φ (.seq k rows) v0:= by
 have hbox:=hR.box b _ hb
 rw[hL]at hbox
 obtain⟨_,hk,hlen,h0⟩:=hbox
 have hi:=(Ze.1 hb).1
 rcases h0 with⟨rfl,rfl⟩|⟨β,cp,e,cur,rfl,h5,h6,h7,h8,h9,h10,h11⟩
 ·have:=hR.upd hi (.inl ⟨_,hb,Z⟩) (o':=.arr k true []) (gb':=g.L b) (Φ':=g.Φ) (w':=w) Z Z Z (Zn _) (fun _ _ _=>rfl) (GB.le_refl _)
   (fun β hβ=>by rw[hL]at hβ;simp[GB.blk]at hβ) (fun _ _ _ h=>h) (fun _ _ _ _=>rfl) (fun β off u h=>hR.phi β off u h) (by rw[hL];exact⟨Z,hk,by simp,.inl ⟨Z,Z⟩⟩)
  have e1:J0 g.L b (g.L b)=g.L:= by funext j;simp only[J0];split;(next e=>rw[e]);rfl
  rw[e1]at this
  exact⟨_,this.1,this.2,Z,.seq0 _ _ _⟩
 ·have hbase:=hR.base b β (by rw[hL];rfl)
  have hlt:rows.length*k≤cur.size:= by rw[h8];exact ZQ _ h5
  have hq:∀(β':Nat) (off:Nat) (u:Value),g.Φ β' off=some u→(fun β' off=>if β'=β∧off<rows.length*k then cur[off]? else g.Φ β' off) β' off=some u:=fun β' off u h=>by
    have:¬ (β'=β∧off<rows.length*k):= by rintro⟨rfl,_⟩;rw[h10 Z off]at h;cases h
    simp only[if_neg this];exact h
  have:=hR.upd hi (.inl ⟨_,hb,Z⟩) (o':=.arr k true rows) (gb':=g.L b) (Φ':=fun β' off=>if β'=β∧off<rows.length*k then cur[off]? else g.Φ β' off) (w':=w) Z Z Z (Zn _) (fun _ _ _=>rfl) (GB.le_refl _)
   (fun β' hβ=>⟨.inl hβ,(hR.base b β' hβ).2⟩)
   hq
   (fun β' _ hne off=>by
    have:¬ (β'=β∧off<rows.length*k):= by rintro⟨rfl,_⟩;exact hne (by rw[hL];rfl)
    simp only[if_neg this])
   (fun β' off u h=>by
    try simp only at h
    split at h
    ·next e1=>obtain⟨rfl,_⟩:=e1;simp[World.cell?,h7,h]
    ·exact hR.phi β' off u h)
   (by
    rw[hL]
    refine⟨Z,hk,hlen,.inr ⟨β,cp,e,cur,Z,h5,h6,h7,h8,fun i r j x hi hj=>?_,by simp,fun _=>⟨fun off ho=>by simp[ho],fun off ho=>?_⟩⟩⟩
    ·obtain⟨u,hu,hd⟩:=h9 i r j x hi hj
     refine⟨u,hu,hd.mono (fun β' off u h=>?_)⟩
     have:¬ (β'=β∧off<rows.length*k):= by rintro⟨rfl,_⟩;rw[h10 Z off]at h;cases h
     simp only[if_neg this];exact h
    ·have:¬ (off<rows.length*k):= by omega
     simp[this];exact h10 Z off)
  have e1:J0 g.L b (g.L b)=g.L:= by funext j;simp only[J0];split;(next e=>rw[e]);rfl
  rw[e1]at this
  refine⟨_,this.1,this.2,Z,?_⟩
  have hb2:=this.1.box b (.arr k true rows) (by simp[hi])
  simp only[AO.rd]at hb2
  rw[hL]at hb2
  exact B5a hb2
structure Froze (MC:Nat→Code→ACode→Prop) (P:Program) (B0:Nat) (H:A2) (g:Ghost) (w:World) (H':A2) (g':Ghost):Prop where
 rel:Rel MC P B0 H' g' w
 ext:Ext H g w H' g' w
 len:H'.length=H.length
 L:g'.L=g.L
theorem Froze.refl (hR:Rel MC P B0 H g w):Froze MC P B0 H g w H g:=⟨hR,Ext.refl _ _ _,Z,Z⟩
theorem Froze.trans {H1 H2:A2} {g1 g2:Ghost} (h:Froze MC P B0 H g w H1 g1) (k:Froze MC P B0 H1 g1 w H2 g2):Froze MC P B0 H g w H2 g2 :=
 ⟨k.rel,h.ext.trans k.ext,k.len.trans h.len,k.L.trans h.L⟩
theorem B7j (hR:Rel MC P B0 H g w) {v':AV} {u:Value} (hV:V g v u) (h:frv H v=some (v',H')):∃g',Froze MC P B0 H g w H' g'∧V g' v' u:= by
 cases v with
 | asl b n =>
  have key:∀k pb rows v0,g.L b=.arr k v0→rows.length=n→A0c MC P g w (.arr k pb rows) (.arr k v0)→u=v0:= by
   intro k pb rows v0 hL hn hbox
   cases hV with
   | den _ _ hd=>cases hd
   | asl _ _ k2 v1 _ hL' hle hone hnv =>
    rw[hL]at hL'; cases hL'
    obtain⟨_,_,_,h0⟩:=hbox
    rcases h0 with⟨rfl,rfl⟩|⟨β,cp,e,cur,rfl,_⟩
    ·exact hnv (by simpa [slen] using hn)
    ·exact hnv (by simpa [slen] using hn)
  simp only[frv]at h
  split at h
  ·next k rows hc =>
   split at h
   ·next hn =>
    simp at h;obtain⟨rfl,rfl⟩:=h
    obtain⟨v0,hL,hbox⟩:=hR.arr hc
    have:=key k true rows v0 hL (Zk hn) hbox
    subst this
    exact⟨g,.refl hR,.den _ _ (B5a hbox)⟩
   ·cases h
  ·next k rows hc =>
   split at h
   ·next r hw =>
    split at h
    ·next hn =>
     simp at h;obtain⟨rfl,rfl⟩:=h
     obtain⟨v0,hL,hbox⟩:=hR.arr hc
     have:=key k false rows v0 hL (Zk hn) hbox
     subst this
     have hb:=A1a hw
     have e1:r=(k,false,rows):= by
      unfold harr hget at hc
      rw[hb]at hc
      simp at hc
      obtain⟨r1,r2,r3⟩:=r
      simp at hc;simp[hc]
     subst e1
     obtain⟨g',q1,q2,q3,q4⟩:=hR.publish hb hL
     exact⟨g',⟨q1,q2,by simp[hset],q3⟩,.den _ _ q4⟩
    ·cases h
   ·cases h
  ·cases h
 | _ =>
  simp[frv]at h
  obtain⟨rfl,rfl⟩:=h
  exact⟨g,.refl hR,hV⟩
theorem B0x:∀{l l':List AV} {H H':A2} {g:Ghost} {us:List Value},Rel MC P B0 H g w→us.length=l.length→(∀ (j:Nat) x,l[j]? = some x→V g x (us[j]?.getD undef))→Z4 H l=some (l',H') →
  ∃ g',Froze MC P B0 H g w H' g'∧l'.length=l.length∧∀ (j:Nat) x,l'[j]? = some x→V g' x (us[j]?.getD undef)
 | [],l',H,H',g,us,hR,hl,hV,h=>by
  simp[Z4]at h;obtain⟨rfl,rfl⟩:=h
  exact⟨g,.refl hR,Z,fun j x hj=>by simp at hj⟩
 | v::l,l',H,H',g,us,hR,hl,hV,h=>by
  cases us with
  | nil=>simp at hl
  | cons u us =>
   simp only[Z4]at h
   split at h
   ·cases h
   ·next v1 H1 h1 =>
    split at h
    ·cases h
    ·next l1 H2 h2 =>
     simp at h;obtain⟨rfl,rfl⟩:=h
     obtain⟨g1,f1,hv1⟩:=B7j hR (by simpa using hV 0 v Z) h1
     obtain⟨g2,f2,hl2,hv2⟩:=B0x f1.rel (us:=us) (by simpa using hl) (fun j x hj=>by simpa using (hV (j+1) x (by simpa using hj)).mono f1.ext.le) h2
     refine⟨g2,f1.trans f2,by simp[hl2],fun j x hj=>?_⟩
     cases j with
     | zero=>simp at hj;subst hj;simpa using hv1.mono f2.ext.le
     | succ j=>simp at hj;simpa using hv2 j x hj
theorem A7u (hR:Rel MC P B0 H g w) {v':AV} {u:Value} (hV:V g v u) (h:U4 H v=some (v',H')):∃g',Froze MC P B0 H g w H' g'∧V g' v' u:= by
 cases v with
 | agg cs =>
  simp only[U4,Zz]at h
  obtain⟨⟨l',H1⟩,h1,h2⟩:=h
  simp at h2;obtain⟨rfl,rfl⟩:=h2
  obtain⟨vs,rfl,hl,hx⟩:=A9u hV
  obtain⟨g',f,q1,q2⟩:=B0x hR (us:=vs.toList) (by simpa using hl) (fun j x hj=>by simpa using (hx j x hj).2.1) h1
  refine⟨g',f,.agg _ _ (by rw[hl,q1]) (fun j x hj=>by simpa using q2 j x hj) (fun j x hj=>?_)⟩
  have hlt:j<cs.length:= by have:=(Ze.1 hj).1;omega
  exact(hx j cs[j] (by simp[hlt])).2.2
 | nils k =>
  simp[U4]at h
  obtain⟨rfl,rfl⟩:=h
  cases hV with
  | den _ _ hd=>cases hd;exact⟨g,.refl hR,.den _ _ (.seq0 _ _ _)⟩
 | _=>exact B7j hR hV (by simpa [U4] using h)
theorem B8y:∀{l l':List AV} {H H':A2} {g:Ghost} {us:List Value},Rel MC P B0 H g w→us.length=l.length→(∀ (j:Nat) x,l[j]? = some x→V g x (us[j]?.getD undef))→S6 H l=some (l',H') →
  ∃ g',Froze MC P B0 H g w H' g'∧l'.length=l.length∧∀ (j:Nat) x,l'[j]? = some x→V g' x (us[j]?.getD undef)
 | [],l',H,H',g,us,hR,hl,hV,h=>by
  simp[S6]at h;obtain⟨rfl,rfl⟩:=h
  exact⟨g,.refl hR,Z,fun j x hj=>by simp at hj⟩
 | v::l,l',H,H',g,us,hR,hl,hV,h=>by
  cases us with
  | nil=>simp at hl
  | cons u us =>
   simp only[S6]at h
   split at h
   ·cases h
   ·next v1 H1 h1 =>
    split at h
    ·cases h
    ·next l1 H2 h2 =>
     simp at h;obtain⟨rfl,rfl⟩:=h
     obtain⟨g1,f1,hv1⟩:=A7u hR (by simpa using hV 0 v Z) h1
     obtain⟨g2,f2,hl2,hv2⟩:=B8y f1.rel (us:=us) (by simpa using hl) (fun j x hj=>by simpa using (hV (j+1) x (by simpa using hj)).mono f1.ext.le) h2
     refine⟨g2,f1.trans f2,by simp[hl2],fun j x hj=>?_⟩
     cases j with
     | zero=>simp at hj;subst hj;simpa using hv1.mono f2.ext.le
     | succ j=>simp at hj;simpa using hv2 j x hj
theorem Froze.does {g':Ghost} (f:Froze MC P B0 H g w H' g') {x:Value} (h1:(execOp a.eval o).run P w=.ok (.value x) w) (hV:V g' v x) (X:List Nat):Does MC P B0 a o X H g w v H' :=
 ⟨x,w,g',.inl h1,hV,f.rel,f.ext,f.len,fun i _ hn=>by rw[f.L];exact hn⟩
theorem E5b {y:Opd} (hm:D1 P o.op (.mvz y)=true) (hR:Rel MC P B0 H g w) (hS:D7 g s a.tmps) (h:prim c n0 s H (.mvz y)=some (v,H')):Does MC P B0 a o [] H g w v H':= by
 simp only[D1]at hm
 simp only[prim]at h
 split at h
 ·next u he =>
  split at hm
  ·next x hop =>
   obtain⟨g',f,hV⟩:=A7u hR (L6 hS hm he) h
   exact f.does (by simp[execOp,hop]) hV []
  ·next x hop =>
   obtain⟨g',f,hV⟩:=A7u hR (L6 hS hm he) h
   exact f.does (by simp[execOp,hop]) hV []
  ·cases hm
 ·cases h
theorem C15 {k:Nat} {x:Opd} {lo hi:Option Opd} (hm:D1 P o.op (.sliceL k x lo hi)=true) (hR:Rel MC P B0 H g w) (hS:D7 g s a.tmps) (h:prim c n0 s H (.sliceL k x lo hi)=some (v,H')):Does MC P B0 a o [] H g w v H':= by
 simp only[D1]at hm
 split at hm
 ·next t x' lo' hi' hop =>
  simp only[Zc]at hm
  obtain⟨⟨⟨h1,h2⟩,h3⟩,h4⟩:=hm
  split at h1
  ·next e hsl =>
   have hu:=S9 hsl
   simp at h1
   obtain⟨⟨hk,hkn⟩,hpos⟩:=h1
   simp only[prim]at h
   split at h
   ·next p hp =>
    split at h
    ·next k2 rows H1 hf =>
     split at h
     ·next l hh hl hr =>
      split at h
      ·next hb =>
       simp at h;obtain⟨rfl,rfl⟩:=h
       obtain⟨b1,b2,b3,rfl⟩:=hb
       obtain⟨g',f,hV⟩:=A7u hR (L6 hS h2 hp) hf
       have q1:((lo'.map a.eval)=none∧l=0)∨∃ k,(lo'.map a.eval)=some (.int k l):= by
        rcases A8s h3 hS hl with⟨e1,e2⟩|⟨x2,k,e1,e2⟩
        ·exact .inl ⟨by simp[e1],e2⟩
        ·exact .inr ⟨k,by simp[e1,e2]⟩
       have q2:((hi'.map a.eval)=none∧hh=rows.length)∨∃ k,(hi'.map a.eval)=some (.int k hh):= by
        rcases A8s h4 hS hr with⟨e1,e2⟩|⟨x2,k,e1,e2⟩
        ·exact .inl ⟨by simp[e1],e2⟩
        ·exact .inr ⟨k,by simp[e1,e2]⟩
       have hrun:∀ad cp,rows.length≤cp→a.eval x'=.slice ad rows.length cp →
         (execOp a.eval o).run P w=.ok (.value (.slice (if cp=l.toNat then ad else ad.map (·.add (l.toNat*k2))) (hh.toNat-l.toNat) (cp-l.toNat))) w:= by
        intro ad cp hcp he
        have:=A08 (P:=P) (isSlice:=true) b1 b2 b3 hcp q1 q2 w
        simp[execOp,hop,Instr.sliceAt,run_underlying hu,he,Instr.slice,this,M4 (M3 hkn),hk]
       generalize hev:a.eval x'=u at hV
       cases hV with
       | den _ _ hd =>
        cases hd with
        | seq0 _ ad cp =>
         simp at b3
         have e1:l=0:= by omega
         have e2:hh=0:= by omega
         subst e1 e2
         refine f.does (hrun ad cp (by simp) (by simpa using hev)) ?_ []
         refine .den _ _ ?_
         simpa using Den.seq0 _ _ _
        | seq _ _ ad cp vs hs hcap hlen p1 p2 =>
         have hx:=hrun (some ad) cp hcap hev
         have hlen2:((rows.take hh.toNat).drop l.toNat).length=hh.toNat-l.toNat:= by simp;omega
         by_cases hz:hh.toNat-l.toNat=0
         ·refine f.does hx (.den _ _ ?_) []
          have:(rows.take hh.toNat).drop l.toNat=[]:=Z15 (by omega)
          rw[this,hz]
          exact .seq0 _ _ _
         ·have hne:¬ cp=l.toNat:= by omega
          rw[if_neg hne]at hx
          refine f.does hx (.den _ _ ?_) []
          rw[← hlen2]
          simp only[Zb]
          rw[A7o hs]
          refine .seq _ _ _ _ (fun i j=>vs (l.toNat+i) j) Z (by omega) (fun r hr=>hlen r (List.mem_of_mem_take (List.mem_of_mem_drop hr))) (fun i r j x hi hj=>?_) (fun i r j x hi hj=>?_)
          all_goals
           have hi':rows[l.toNat+i]? = some r:= by
            rw[ZV]at hi
            rw[List.getElem?_take]at hi
            split at hi
            ·exact hi
            ·cases hi
          ·have:=p1 _ _ _ _ hi' hj
           rw[Z21]at this
           have e:ad.off+l.toNat*k2+(i*k2+j)=ad.off+(l.toNat*k2+i*k2+j):= by omega
           simp only[e];exact this
          ·exact p2 _ _ _ _ hi' hj
      ·cases h
     ·cases h
    ·cases h
   ·cases h
  ·cases h1
 ·cases hm
end
section
variable {MC:Nat→Code→ACode→Prop} {P:Program} {B0:Nat} {c:Sc} {n0:Nat} {H H':A2} {g:Ghost} {w:World} {s:C2} {a:Act} {o:Oper} {v:AV}
theorem B4j:∀(owns:List (Nat×Nat×Nat)) {zs zs':List AV} {H H':A2} {g:Ghost} {vs:Array Value},P3 n0 owns zs H=(zs',H')→Rel MC P B0 H g w →
  Free H g n0 (owns.map fun x=>x.2.1)→(owns.map fun x=>x.2.1).Nodup→(∀ x∈owns,0<x.2.2∧vs[x.1]? = some (.slice none 0 0))→V9 g zs vs →
  ∃ g',Rel MC P B0 H' g' w∧Ext H g w H' g' w∧H'.length=H.length∧V9 g' zs' vs∧(∀ i,i ∉ owns.map (fun x=>n0+x.2.1)→g.L i=.none→g'.L i=.none)
 | [],zs,zs',H,H',g,vs,h,hR,_,_,_,hC=>by
  simp[P3]at h;obtain⟨rfl,rfl⟩:=h
  exact⟨g,hR,Ext.refl _ _ _,Z,hC,fun i _ h=>h⟩
 | (j,r,k)::owns,zs,zs',H,H',g,vs,h,hR,hF,hnd,hx,hC=>by
  simp only[P3]at h
  obtain⟨hi,hn⟩:=hF r (by simp)
  obtain⟨hk,hj⟩:=hx _ (by simp:(j,r,k)∈(j,r,k)::owns)
  simp only at hk hj
  have hb:=hR.bare hi hn (o':=.arr k false []) (gb':=.arr k (.slice none 0 0)) Z ⟨Z,hk,by simp,.inl ⟨Z,Z⟩⟩
  simp only[Zt,Z1c]at hnd
  have hC':V9 ⟨J0 g.L (n0+r) (.arr k (.slice none 0 0)),g.Φ,g.gl⟩ (zs.set j (.asl (n0+r) 0)) vs:= by
   refine⟨by rw[hC.1];simp,fun i x hi=>?_⟩
   rw[ZJ]at hi
   by_cases e:j=i
   ·subst e
    rw[if_pos Z]at hi
    split at hi
    ·cases hi
     exact⟨_,hj,.asl _ _ k (.slice none 0 0) _ (by simp[J0]) (by simp[slen]) Z (fun _=>rfl),Z⟩
    ·cases hi
   ·rw[if_neg e]at hi
    obtain⟨u,e1,e2,e3⟩:=hC.2 i x hi
    exact⟨u,e1,e2.mono hb.2.le,e3⟩
  obtain⟨g',q1,q2,q3,q4,q5⟩:=B4j owns h hb.1 (fun r' hr'=>by
    obtain⟨y,hy,rfl⟩:=ZK.1 hr'
    obtain⟨f1,f2⟩:=hF y.2.1 (by simp;exact .inr ⟨_,_,hy⟩)
    refine⟨by simpa [hset] using f1,?_⟩
    have:y.2.1≠r:=fun e=>hnd.1 (by rw[← e];exact hr')
    exact(A8l (by omega)).trans f2) hnd.2 (fun x hx'=>hx x (by simp[hx'])) hC'
  refine⟨g',q1,hb.2.trans q2,by rw[q3];simp[hset],q4,fun i hi hni=>?_⟩
  simp only[Zt,Zu,not_or]at hi
  refine q5 i hi.2 ?_
  exact(A8l hi.1).trans hni
theorem E0q {zs:List AV} {owns:List (Nat×Nat×Nat)} {r:Nat} (hm:D1 P o.op (.alloc zs owns r)=true) (hR:Rel MC P B0 H g w) (hF:Free H g n0 (F6 (.alloc zs owns r))) (hnd:(F6 (.alloc zs owns r)).Nodup)
  (h:prim c n0 s H (.alloc zs owns r)=some (v,H')):Does MC P B0 a o ((F6 (.alloc zs owns r)).map (n0 + ·)) H g w v H':= by
 simp only[D1]at hm
 split at hm
 ·next e hop =>
  simp only[Zc]at hm
  obtain⟨⟨h1,h2⟩,h3⟩:=hm
  obtain⟨i,zv,hi,hz,hC,hk⟩:=A6t h1 g
  simp only[prim]at h
  cases hso:P3 n0 owns zs H with
  | mk zs' H1 =>
   simp only[hso]at h
   simp at h;obtain⟨rfl,rfl⟩:=h
   simp only[F6,Z1c]at hnd
   obtain⟨g1,q1,q2,q3,q4,q5⟩:=B4j (MC:=MC) (P:=P) (B0:=B0) owns hso hR (fun r' hr'=>hF r' (by simp only[F6,Zu];exact .inr hr')) hnd.2 (fun x hx=>by
    have:=Zq.1 h2 x hx
    simp only[Zc]at this
    refine⟨by simpa using this.1,?_⟩
    have t2:=this.2
    split at t2
    ·next kk hzz =>
     obtain⟨u,e1,e2,_⟩:=hC.2 _ _ hzz
     cases e2 with
     | den _ _ hd=>cases hd;exact e1
    ·cases t2) hC
   obtain⟨hi0,hn0⟩:=hF r (by simp[F6])
   have hn1:g1.L (n0+r)=.none:=q5 _ (by
    intro hmem
    obtain⟨y,hy,e⟩:=ZK.1 hmem
    exact hnd.1 (ZK.2 ⟨y,hy,by omega⟩)) hn0
   have hle:g1.le ⟨J0 g1.L (n0+r) (.cells w.heap.size e),g1.Φ,g1.gl⟩:=⟨fun j=>by simp only[J0];split;(next e=>subst e;rw[hn1];trivial);exact GB.le_refl _,fun _ _ _ h=>h⟩
   have hb:=q1.alloc (by omega:n0+r<H1.length) hn1 (.cells zv.cells e) (o':=.cells zs') (gb':=.cells w.heap.size e) Z
    ⟨_,heap_alloc_new w _,q4.1,fun j x hj=>let ⟨u,b1,b2,b3⟩:=q4.2 j x hj;⟨u,b1,b2.mono hle,b3⟩,fun off=>q1.phi_none (Zn _)⟩
   refine⟨_,_,_,.inl ?_,.ptr _ _ w.heap.size e (by simp[J0]),hb.1,q2.trans hb.2,by simp[hset,q3],fun j hj hnj=>?_⟩
   ·simp[execOp,hop,Instr.alloc,zeroValue,typeInfo,hi,hz,newVar,newRow]
   ·simp only[F6,Zt,List.map_map,Zu,not_or]at hj
    exact(A8l hj.1).trans (q5 j (by simpa [Function.comp_def] using hj.2) hnj)
 ·cases hm
theorem A7g (w:World) (β γ:Nat) (cs:Array Value) (h:γ≠β):(w.setRow β cs).heap[γ]? = w.heap[γ]?:= by
 simp only[World.setRow,Array.getElem?_modify]
 rw[if_neg (by omega)]
theorem B5m (w:World) (β γ off:Nat) (cs:Array Value) (h:γ≠β):(w.setRow β cs).cell? ⟨γ,off,none⟩=w.cell? ⟨γ,off,none⟩ :=
 World.cell?_of_block (A7g w β γ cs h)
theorem C0q {Φ Φ':Nat→Nat→Option Value} {β:Nat} (h1:∀γ off,γ≠β→Φ' γ off=Φ γ off) (h2:∀off u,Φ β off=some u→Φ' β off=some u):∀γ off u,Φ γ off=some u→Φ' γ off=some u :=
 fun γ off u h=>by
  by_cases e:γ=β
  ·subst e;exact h2 off u h
  ·rw[h1 _ _ e];exact h
theorem Rel.write (hR:Rel MC P B0 H g w) {b:Nat} (hb:∃ob,H[b]? = some ob∧ob.isV=true) {β:Nat} (hL:(g.L b).blk=some β) {cur:Array Value} {e:TypeId} (hg:w.heap[β]? = some (.cells cur e (0,0)))
  (new:Array Value) {o':AO} {gb':GB} (hle:(g.L b).le gb') (hbl:gb'.blk=some β) (hΦ:∀off,(g.Φ β off).isSome→new[off]? = g.Φ β off)
  {Φ':Nat→Nat→Option Value} (hΦ1:∀γ off,γ≠β→Φ' γ off=g.Φ γ off) (hΦ2:∀off u,g.Φ β off=some u→Φ' β off=some u) (hΦ3:∀off u,Φ' β off=some u→new[off]? = some u)
  (hbox:A0c MC P ⟨J0 g.L b gb',Φ',g.gl.mono (C0q hΦ1 hΦ2)⟩ (w.setRow β new) o'.rd gb') :
  Rel MC P B0 (H.set b o') ⟨J0 g.L b gb',Φ',g.gl.mono (C0q hΦ1 hΦ2)⟩ (w.setRow β new)∧Ext H g w (H.set b o') ⟨J0 g.L b gb',Φ',g.gl.mono (C0q hΦ1 hΦ2)⟩ (w.setRow β new):= by
 obtain⟨ob,hob,hw⟩:=hb
 have hi:=(Ze.1 hob).1
 refine hR.upd (o':=o') (gb':=gb') (Φ':=Φ') (w':=w.setRow β new) hi (.inl ⟨ob,hob,hw⟩) Z Z Z (by simp[World.setRow]) (fun γ hγ hne=>A7g _ _ _ _ (fun e=>hne (by rw[hL,e]))) hle (fun γ hγ=>?_) (C0q hΦ1 hΦ2) (fun γ hγ hne off=>hΦ1 _ _ (fun e=>hne (by rw[hL,e]))) (fun γ off u h=>?_) hbox
 ·rw[hbl]at hγ;cases hγ
  refine⟨.inl hL,?_⟩
  have:=(hR.base b β hL).2
  simpa [World.setRow] using this
 ·by_cases e1:γ=β
  ·subst e1
   have:=setRow_heap w γ cur new e (0,0) hg
   simp[World.cell?,this]
   exact hΦ3 off u h
  ·rw[B5m _ _ _ _ _ e1]
   rw[hΦ1 _ _ e1]at h
   exact hR.phi γ off u h
theorem Rel.write_cells (hR:Rel MC P B0 H g w) {b β:Nat} {e:TypeId} {cs:List AV} (hc:X2 H b=some cs) (hL:g.L b=.cells β e) {cs':List AV} {new:Array Value} (hV:V9 g cs' new) :
  Rel MC P B0 (H.set b (.cells cs')) g (w.setRow β new)∧Ext H g w (H.set b (.cells cs')) g (w.setRow β new):= by
 have hb:=V6 hc
 have hbox:=hR.box b _ hb
 rw[hL]at hbox
 obtain⟨cur,h1,h2,h3,h4⟩:=hbox
 have e1:J0 g.L b (g.L b)=g.L:= by funext j;simp only[J0];split;(next e=>rw[e]);rfl
 have:=hR.write (b:=b) ⟨_,hb,Z⟩ (by rw[hL];rfl) h1 new (o':=.cells cs') (gb':=g.L b) (GB.le_refl _) (by rw[hL];rfl) (fun off hs=>by rw[h4 off]at hs;cases hs)
  (Φ':=g.Φ) (fun _ _ _=>rfl) (fun _ _ h=>h) (fun off u h=>by rw[h4 off]at h;cases h) (by
   rw[hL]
   refine⟨new,setRow_heap w β cur new e (0,0) h1,hV.1,fun j x hj=>?_,h4⟩
   obtain⟨u,a1,a2,a3⟩:=hV.2 j x hj
   refine⟨u,a1,?_,a3⟩
   rw[← hL,e1];exact a2)
 rw[e1]at this
 exact this
theorem D0g {β:Nat} {cur:Array Value} {e:TypeId} (h:w.heap[β]? = some (.cells cur e (0,0))):w.setRow β cur=w:= by
 have e1:(w.setRow β cur).heap=w.heap:= by
  refine Array.ext_getElem? fun i=>?_
  by_cases hi:i=β
  ·subst hi;rw[setRow_heap w i cur cur e (0,0) h,h]
  ·exact A7g w β i cur hi
 have e2:w.setRow β cur = { w with heap:=(w.setRow β cur).heap }:=rfl
 rw[e2,e1]
theorem C6u {x:Value} (hR:Rel MC P B0 H g w) (hV:V g v x) (h:Y4 H v=some H'):∃g',Froze MC P B0 H g w H' g':= by
 have other:(U4 H v).map (·.2)=some H'→∃ g',Froze MC P B0 H g w H' g':= by
  intro h
  obtain⟨r,h1,h2⟩:=Zz.1 h
  obtain⟨g1,f1,_⟩:=A7u hR hV (v':=r.1) (H':=r.2) h1
  subst h2
  exact⟨g1,f1⟩
 cases v with
 | ptr b off =>
  simp only[Y4]at h
  split at h
  ·next cs hc =>
   split at h
   ·next r hf =>
    split at h
    ·next cs1 hc1 =>
     simp only[Za]at h
     subst h
     cases hV with
     | den _ _ hd=>cases hd
     | ptr _ _ β e hL =>
      have hbox:=hR.box b _ (V6 hc)
      simp only[AO.rd]at hbox
      rw[hL]at hbox
      obtain⟨cur,c1,c2,c3,c4⟩:=hbox
      obtain⟨g1,f,q1,q2⟩:=B0x hR (us:=cur.toList) (l':=r.1) (H':=r.2) (by simpa using c2) (fun j y hj=>by
       obtain⟨u,u1,u2,_⟩:=c3 j y hj
       simpa [u1] using u2) hf
      have hw:=f.rel.write_cells hc1 (by rw[f.L];exact hL) (cs':=r.1) (new:=cur) ⟨by rw[q1];exact c2,fun j y hj=>by
       have hlt:j<cs.length:= by have:=(Ze.1 hj).1;omega
       obtain⟨u,u1,u2,u3⟩:=c3 j cs[j] (by simp[hlt])
       refine⟨u,u1,?_,u3⟩
       have:=q2 j y hj
       simpa [u1] using this⟩
      rw[D0g c1]at hw
      exact⟨g1,hw.1,f.ext.trans hw.2,by simp only[hset,Z0t];exact f.len,f.L⟩
    ·cases h
   ·cases h
  ·cases h
 | _=>exact other h
theorem B4i:∀{l:List Nat} {H H':A2} {g:Ghost},Rel MC P B0 H g w→D7 g s a.tmps→publish s H l=some H'→∃ g',Froze MC P B0 H g w H' g'
 | [],H,H',g,hR,_,h=>by simp[publish]at h;subst h;exact⟨g,.refl hR⟩
 | t::l,H,H',g,hR,hS,h=>by
  simp only[publish]at h
  split at h
  ·next v hv =>
   split at h
   ·next r hr =>
    obtain⟨x,hx,hV⟩:=hS t v hv
    obtain⟨g1,f1⟩:=C6u hR hV hr
    obtain⟨g2,f2⟩:=B4i f1.rel (hS.mono f1.ext.le) h
    exact⟨g2,f1.trans f2⟩
   ·cases h
  ·cases h
theorem C7r {cs:List AV} {vs:Array Value} (hC:V9 g cs vs) {new:List AV} {ns:Array Value} (hN:V9 g new ns) {off:Nat} (hle:off+new.length≤cs.length) :
  V9 g (splice cs off new) (vs.toList.take off++ns.toList++vs.toList.drop (off+ns.toList.length)).toArray:= by
 obtain⟨n1,n2⟩:=hN
 refine⟨by rw[B5c _ _ _ hle];simp[hC.1,n1];omega,fun j x hj=>?_⟩
 rw[B5b _ _ _ hle]at hj
 have e1:((vs.toList.take off++ns.toList++vs.toList.drop (off+ns.toList.length)).toArray)[j]? = if j<off then vs[j]? else if j<off+new.length then ns[j-off]? else vs[j]?:= by
  have hlt:(vs.toList.take off).length=off:= by simp[hC.1];omega
  simp only[Z0r,ZB]
  rw[ZP]
  rw[hlt]
  split
  ·next h1=>rw[ZO h1];simp
  ·next h1 =>
   rw[ZP]
   simp only[Z0i,n1]
   split
   ·next h2=>rw[if_pos (by omega)];simp
   ·next h2 =>
    rw[if_neg (by omega),ZV]
    simp
    congr 1;omega
 rw[e1]
 split at hj
 ·next h1=>rw[if_pos h1];exact hC.2 j x hj
 ·next h1 =>
  rw[if_neg h1]
  split at hj
  ·next h2=>rw[if_pos h2];exact n2 _ x hj
  ·next h2=>rw[if_neg h2];exact hC.2 j x hj
theorem B1h {t:TypeId} {k:Nat} (hkn:known P t=true) (hk:P.cellsOf t=k) {β off:Nat} {cur:Array Value} {e:TypeId} (hg:w.heap[β]? = some (.cells cur e (0,0))) {u:Value} (hu:u.cells.size=k)
  (h1:∀x∈u.cells.toList,x.oneCell'=true) (hfit:off+k≤cur.size) :
  (storeVar t ⟨β,off,none⟩ u).run P w=.ok () (w.setRow β (cur.toList.take off++u.cells.toList++cur.toList.drop (off+u.cells.toList.length)).toArray):= by
 have hst:=run_storeCells_at P β off e u.cells.toList 0 cur w hg (by simp[hu];omega) h1
 simp only[Z1e]at hst
 simp only[storeVar,Sem.run_bind,M4 (M3 hkn),Result.andThen_ok,hk]
 have hne:¬ (u.cells.size≠k):= by omega
 simp[hne,hst]
end
section
variable {MC:Nat→Code→ACode→Prop} {P:Program} {B0:Nat} {c:Sc} {n0:Nat} {H H':A2} {g:Ghost} {w:World} {s:C2} {a:Act} {o:Oper} {v:AV}
theorem A4e {b n k:Nat} {v0 u:Value} (hV:V g (.asl b n) u) (hL:g.L b=.arr k v0) (hn:slen v0=n):u=v0:= by
 cases hV with
 | den _ _ hd=>cases hd
 | asl _ _ k2 v1 _ hL' hle hone hnv=>rw[hL]at hL'; cases hL'; exact hnv hn
theorem Y1 {k:Nat} {pb:Bool} {rows:List (List AV)} {v0:Value} (h:A0c MC P g w (.arr k pb rows) (.arr k v0)):slen v0=rows.length:= by
 obtain⟨_,_,_,h0⟩:=h
 rcases h0 with⟨rfl,rfl⟩|⟨β,cp,e,cur,rfl,_⟩ <;> rfl
theorem Rel.arrW (hR:Rel MC P B0 H g w) {b k:Nat} {p:Bool} {rows:List (List AV)} (h:A05 H b=some (k,p,rows)):∃v,g.L b=.arr k v∧A0c MC P g w (.arr k p rows) (.arr k v):= by
 have hb:=A1a h
 have:=hR.box b _ hb
 simp only[AO.rd]at this
 cases hL:g.L b <;> rw[hL]at this <;> try exact this.elim
 obtain⟨rfl,h3⟩:=this
 exact⟨_,Z,Z,h3⟩
theorem D0b {k:Nat} {rows:List (List AV)} {cur:Array Value} {Φ:Nat→Nat→Option Value} (hlen:∀r∈rows,r.length=k) (hsz:rows.length*k≤cur.size)
  (h9:∀(i:Nat) (r:List AV) (j:Nat) (x:AV),rows[i]? = some r→r[j]? = some x→∃ u,cur[i*k+j]? = some u∧Den Φ x u)
  {i off:Nat} {r:List AV} (hi:rows[i]? = some r) {cs:List AV} {ns:List Value} (hl:ns.length=cs.length) (hle:off+cs.length≤r.length) (hN:∀(j:Nat) (x:AV),cs[j]? = some x→∃ u,ns[j]? = some u∧Den Φ x u) :
  (∀ r' ∈ rows.set i (splice r off cs),r'.length=k) ∧
  ∀ (i':Nat) (r':List AV) (j:Nat) (x:AV),(rows.set i (splice r off cs))[i']? = some r'→r'[j]? = some x →
   ∃ u,((cur.toList.take (i*k+off)++ns++cur.toList.drop (i*k+off+ns.length)).toArray)[i' * k+j]? = some u∧Den Φ x u:= by
 have hir:=(Ze.1 hi).1
 have hrk:=hlen r (Zw hi)
 have hb:=O3 (k:=k) hir
 have get:∀q,((cur.toList.take (i*k+off)++ns++cur.toList.drop (i*k+off+ns.length)).toArray)[q]? = if q<i*k+off then cur[q]? else if q<i*k+off+cs.length then ns[q-(i*k+off)]? else cur[q]?:= by
  intro q
  have hlt:(cur.toList.take (i*k+off)).length=i*k+off:= by simp;omega
  simp only[Z0r,ZB]
  rw[ZP,hlt]
  split
  ·next h1=>rw[ZO h1];simp
  ·next h1 =>
   rw[ZP,hl]
   split
   ·next h2=>rw[if_pos (by omega)]
   ·next h2 =>
    rw[if_neg (by omega),ZV]
    simp
    congr 1;omega
 refine⟨fun r' hr'=>?_,fun i' r' j x hi' hj=>?_⟩
 ·rcases Z2r hr' with h3|h3
  ·exact hlen r' h3
  ·rw[h3,B5c _ _ _ hle];exact hrk
 ·rw[get]
  rw[ZJ]at hi'
  by_cases e:i=i'
  ·subst e
   rw[if_pos Z,if_pos hir]at hi'
   cases hi'
   rw[B5b _ _ _ hle]at hj
   split at hj
   ·next h1=>rw[if_pos (by omega)];exact h9 i r j x hi hj
   ·next h1 =>
    rw[if_neg (by omega)]
    split at hj
    ·next h2=>rw[if_pos (by omega),show i*k+j-(i*k+off)=j-off by omega];exact hN _ x hj
    ·next h2=>rw[if_neg (by omega)];exact h9 i r j x hi hj
  ·rw[if_neg e]at hi'
   have hjk:j<k:= by have h1:=(Ze.1 hj).1;have h2:=hlen r' (Zw hi');omega
   have hold:=h9 i' r' j x hi' hj
   by_cases h4:i' * k+j<i*k+off
   ·rw[if_pos h4];exact hold
   ·rw[if_neg h4,if_neg]
    ·exact hold
    ·intro h5
     have:=divide (k:=k) hjk (show i' * k+j-i*k<k by omega) (show i' * k+j=i*k+(i' * k+j-i*k) by omega)
     omega
theorem D72 {k r:Nat} {x:Opd} (hm:D1 P o.op (.storeN x k r)=true) (hR:Rel MC P B0 H g w) (hS:D7 g s a.tmps) (hF:Free H g n0 [r]) (h:prim c n0 s H (.storeN x k r)=some (v,H')):Does MC P B0 a o [n0+r] H g w v H':= by
 simp only[D1]at hm
 split at hm
 ·next t x' y' hop =>
  simp only[Zc]at hm
  obtain⟨⟨⟨⟨h1,h2⟩,h3⟩,h4⟩,h5⟩:=hm
  have hk:P.cellsOf t=1:= by simpa using h2
  have hpos:0<k:= by simpa using h3
  have hy:a.eval y'=.slice none 0 0:= by
   split at h5
   ·rfl
   ·cases h5
  obtain⟨hi,hn⟩:=hF r (by simp)
  have hb:=hR.bare hi hn (o':=.arr k false []) (gb':=.arr k (.slice none 0 0)) Z ⟨Z,hpos,by simp,.inl ⟨Z,Z⟩⟩
  have hVn:V ⟨J0 g.L (n0+r) (.arr k (.slice none 0 0)),g.Φ,g.gl⟩ (.asl (n0+r) 0) (.slice none 0 0):=.asl _ _ k (.slice none 0 0) _ (by simp[J0]) (by simp[slen]) Z (fun _=>rfl)
  simp only[prim]at h
  split at h
  ·next b off hp =>
   split at h
   ·next cs hc =>
    split at h
    ·next hg =>
     simp only[Zc]at hg
     obtain⟨g2,g3⟩:=hg
     have g2':off+1≤cs.length:=Zp g2
     simp at h;obtain⟨rfl,rfl⟩:=h
     have hN:=B7b hVn (by simp[AV.cellsOf])
     have hV:=L6 hS h4 hp
     generalize hev:a.eval x'=u at hV
     cases hV with
     | den _ _ hd=>cases hd
     | ptr _ _ β e hL =>
      have hne:b≠n0+r:= by
       intro e;subst e;rw[hn]at hL;cases hL
      have hL1:(⟨J0 g.L (n0+r) (.arr k (.slice none 0 0)),g.Φ,g.gl⟩:Ghost).L b=g.L b:=A8l hne
      have hbox:=hb.1.box b _ (V6 hc)
      simp only[AO.rd]at hbox
      rw[A8l hne,hL]at hbox
      obtain⟨cur,c1,c2,c3,c4⟩:=hbox
      have hC:V9 ⟨J0 g.L (n0+r) (.arr k (.slice none 0 0)),g.Φ,g.gl⟩ cs cur:=⟨c2,c3⟩
      have hone:∀x∈(a.eval y').cells.toList,x.oneCell'=true:= by
       rw[hy]
       intro z hz
       obtain⟨j,hj⟩:=Z1l hz
       have hjl:j<(AV.asl (n0+r) 0).cellsOf.length:= by have:=(Ze.1 hj).1;have:=hN.1;simp at *; omega
       obtain⟨u,e1,_,e3⟩:=hN.2 j (AV.asl (n0+r) 0).cellsOf[j] (by simp[hjl])
       simp[e1]at hj
       subst hj;exact e3
      have hst:=B1h (w:=w) h1 hk c1 (u:=a.eval y') (off:=off) (by rw[hy];exact hN.1) hone (by omega)
      have hW:=hb.1.write_cells hc (hL1.trans hL) (C7r hC hN (off:=off) (by simp only[AV.cellsOf,List.length_singleton];omega))
      refine⟨undef,_,_,.inr ⟨?_,Z⟩,C0y _,hW.1,hb.2.trans hW.2,by unfold hset;rw[Z0t,Z0t],A7y (by simp) _ _⟩
      simp only[hy]at hst
      simp[execOp,hop,Instr.storeAt,Instr.sureAddr,hev,hy,hst]
    ·cases h
   ·cases h
  ·cases h
 ·cases hm
theorem E0v {k:Nat} {x y:Opd} (hm:D1 P o.op (.store k x y)=true) (hR:Rel MC P B0 H g w) (hS:D7 g s a.tmps) (h:prim c n0 s H (.store k x y)=some (v,H')):Does MC P B0 a o [] H g w v H':= by
 simp only[D1]at hm
 split at hm
 ·next t x' y' hop =>
  simp only[Zc]at hm
  obtain⟨⟨⟨⟨h1,h2⟩,h3⟩,h4⟩,h5⟩:=hm
  have hk:P.cellsOf t=k:= by simpa using h2
  have hpos:0<k:= by simpa using h3
  simp only[prim]at h
  split at h
  ·next b off p hp hq =>
   split at h
   ·next cs hc =>
    split at h
    ·next hg =>
     simp only[Zc]at hg
     obtain⟨⟨g1,g2⟩,g3⟩:=hg
     have g1':p.cellsOf.length=k:=Zk g1
     have g2':off+k≤cs.length:=Zp g2
     simp at h;obtain⟨rfl,rfl⟩:=h
     have hne:p.cellsOf≠[]:= by intro e;rw[e]at g1'; simp at g1'; omega
     have hN:=B7b (L6 hS h5 hq) hne
     have hV:=L6 hS h4 hp
     generalize hev:a.eval x'=u at hV
     cases hV with
     | den _ _ hd=>cases hd
     | ptr _ _ β e hL =>
      have hbox:=hR.box b _ (V6 hc)
      simp only[AO.rd]at hbox
      rw[hL]at hbox
      obtain⟨cur,c1,c2,c3,c4⟩:=hbox
      have hC:V9 g cs cur:=⟨c2,c3⟩
      have hone:∀x∈(a.eval y').cells.toList,x.oneCell'=true:= by
       intro z hz
       obtain⟨j,hj⟩:=Z1l hz
       have hjl:j<p.cellsOf.length:= by have:=(Ze.1 hj).1;have:=hN.1;simp at *; omega
       obtain⟨u,e1,_,e3⟩:=hN.2 j p.cellsOf[j] (by simp[hjl])
       simp[e1]at hj
       subst hj;exact e3
      have hst:=B1h (w:=w) h1 hk c1 (u:=a.eval y') (off:=off) (by rw[hN.1,g1']) hone (by omega)
      have hW:=hR.write_cells hc hL (C7r hC hN (off:=off) (by omega))
      refine⟨undef,_,g,.inr ⟨?_,Z⟩,C0y g,hW.1,hW.2,by simp[hset],fun i _ h=>h⟩
      simp[execOp,hop,Instr.storeAt,Instr.sureAddr,hev,hst]
    ·cases h
   ·cases h
  ·next b n i off p hp hq =>
   split at h
   ·cases h
   ·next cs H1 hf =>
    split at h
    ·next kk rows hc =>
     split at h
     ·next r hr =>
      split at h
      ·next hg =>
       simp only[Zc]at hg
       obtain⟨⟨⟨g1,g2⟩,g3⟩,g4⟩:=hg
       have g1':rows.length=n:=Zk g1
       have g2':cs.length=k:=Zk g2
       have g3':off+k≤r.length:=Zp g3
       simp at h;obtain⟨rfl,rfl⟩:=h
       have hVp:=L6 hS h5 hq
       have hne:p.cellsOf≠[]:= by
        intro e;rw[e]at hf;simp[Z4]at hf;rw[hf.1]at g2'; simp at g2'; omega
       have hN:=B7b hVp hne
       obtain⟨g1_,f,q1,q2⟩:=B0x hR (us:=(a.eval y').cells.toList) (by simpa using hN.1) (fun j x hj=>by obtain⟨u,e1,e2,_⟩:=hN.2 j x hj;simpa [e1] using e2) hf
       have hV:=(L6 hS h4 hp).mono f.ext.le
       obtain⟨v0,hL,hbox⟩:=f.rel.arrW hc
       have hsl:=Y1 hbox
       obtain⟨_,hk0,hlen,h0⟩:=hbox
       generalize hev:a.eval x'=u at hV
       cases hV with
       | den _ _ hd=>cases hd
       | eptr _ _ _ _ k' v' p' hL' hle hpp =>
        rw[hL]at hL'; cases hL'
        obtain⟨β',c',e1,e2⟩:=hpp (by omega)
        rcases h0 with⟨rfl,rfl⟩|⟨β,cp,e,cur,rfl,a5,a6,a7,a8,a9,a10,a11⟩
        ·simp at hr
        ·cases e1
         subst e2
         have hsz:rows.length*kk≤cur.size:= by rw[a8];exact ZQ _ a5
         have hrk:=hlen r (Zw hr)
         have hir:=(Ze.1 hr).1
         have hmul:=O3 (k:=kk) hir
         have hNs:(a.eval y').cells.size=k:= by rw[hN.1,← q1];omega
         have hone:∀x∈(a.eval y').cells.toList,x.oneCell'=true:= by
          intro z hz
          obtain⟨j,hj⟩:=Z1l hz
          have hjl:j<p.cellsOf.length:= by have:=(Ze.1 hj).1;have:=hN.1;simp at *; omega
          obtain⟨u,e1,_,e3⟩:=hN.2 j p.cellsOf[j] (by simp[hjl])
          simp[e1]at hj
          subst hj;exact e3
         have hst:=B1h (w:=w) h1 hk a7 (u:=a.eval y') (off:=i*kk+off) hNs hone (by omega)
         obtain⟨r1,r2⟩:=D0b hlen hsz a9 hr (cs:=cs) (ns:=(a.eval y').cells.toList) (off:=off) (by simp;omega) (by omega) (fun j x hj=>by
          have hz:=q2 j x hj
          have hjl:j<(a.eval y').cells.size:= by have:=(Ze.1 hj).1;omega
          refine⟨(a.eval y').cells[j],by simp[hjl],?_⟩
          have hx:=Zq.1 g4 x (Zw hj)
          simp[hjl]at hz
          exact B3f hx hz)
         have eL:J0 g1_.L b (g1_.L b)=g1_.L:= by funext j;simp only[J0];split;(next e=>rw[e]);rfl
         have hW:=f.rel.write (b:=b) ⟨_,A1a hc,Z⟩ (by rw[hL];rfl) a7 (cur.toList.take (i*kk+off)++(a.eval y').cells.toList++cur.toList.drop (i*kk+off+(a.eval y').cells.toList.length)).toArray
          (o':=.arr kk false (rows.set i (splice r off cs))) (gb':=g1_.L b) (GB.le_refl _) (by rw[hL];rfl) (fun off hs=>by rw[a10 Z off]at hs;cases hs)
          (Φ':=g1_.Φ) (fun _ _ _=>rfl) (fun _ _ h=>h) (fun off u h=>by rw[a10 Z off]at h;cases h) (by
           rw[hL]
           refine⟨Z,hk0,r1,.inr ⟨_,c',e,_,by simp,by simpa using a5,a6,setRow_heap w _ cur _ e (0,0) a7,?_,r2,fun _ off=>a10 Z off,by simp⟩⟩
           simp;omega)
         rw[eL]at hW
         refine⟨undef,_,g1_,.inr ⟨?_,Z⟩,C0y _,hW.1,f.ext.trans hW.2,by simp[hset,f.len],fun i _ h=>by rw[f.L];exact h⟩
         simp[execOp,hop,Instr.storeAt,Instr.sureAddr,hev,hst]
      ·cases h
     ·cases h
    ·cases h
  ·cases h
 ·cases hm
end
section
variable {MC:Nat→Code→ACode→Prop} {P:Program} {B0:Nat} {c:Sc} {n0:Nat} {H H':A2} {g:Ghost} {w:World} {s:C2} {a:Act} {o:Oper} {v:AV}
theorem B6o (hR:Rel MC P B0 H g w) {x:AV} {u:Value} (hV:V g x u) {rows:List (List AV)} {k:Nat} (hr:A0n H x=some rows) (hk:kOf H x=some k) (hfr:B5y rows=true) (hpos:0<k) :
  ∃ ad cp,u=.slice ad rows.length cp∧∀ q,q≤rows.length→∃ news:Array Value,(Builtin.firstCells k q u).run P w=.ok news w∧news.size=q*k∧(∀ x∈news.toList,x.oneCell'=true)∧(∀ r∈rows,r.length=k) ∧
   ∀ (i:Nat) (r:List AV) (j:Nat) (x:AV),i<q→rows[i]? = some r→r[j]? = some x→∃ z,news[i*k+j]? = some z∧Den g.Φ x z:= by
 have empty:∀ad cp,u=.slice ad 0 cp→rows=[]→∃ ad cp,u=.slice ad rows.length cp∧∀ q,q≤rows.length→∃ news:Array Value,(Builtin.firstCells k q u).run P w=.ok news w∧news.size=q*k∧(∀ x∈news.toList,x.oneCell'=true)∧(∀ r∈rows,r.length=k) ∧
   ∀ (i:Nat) (r:List AV) (j:Nat) (x:AV),i<q→rows[i]? = some r→r[j]? = some x→∃ z,news[i*k+j]? = some z∧Den g.Φ x z:= by
  intro ad cp hu hrw
  subst hrw
  refine⟨ad,cp,by simpa using hu,fun q hq=>?_⟩
  have:q=0:= by simpa using hq
  subst this
  refine⟨#[],?_,by simp,by simp,by simp,by simp⟩
  rw[hu]
  cases ad <;> simp[Builtin.firstCells,loadCells,loadCellsFrom]
 have general:∀(ad:Addr) (cp:Nat) (vs:Nat→Value),u=.slice (some ad) rows.length cp→ad.spot=none→(∀ r∈rows,r.length=k) →
   (∀ i r j x,rows[i]? = some r→r[j]? = some x→w.cell? ⟨ad.block,ad.off+(i*k+j),none⟩=some (vs (i*k+j))∧Den g.Φ x (vs (i*k+j))) →
   ∃ ad cp,u=.slice ad rows.length cp∧∀ q,q≤rows.length→∃ news:Array Value,(Builtin.firstCells k q u).run P w=.ok news w∧news.size=q*k∧(∀ x∈news.toList,x.oneCell'=true)∧(∀ r∈rows,r.length=k) ∧
   ∀ (i:Nat) (r:List AV) (j:Nat) (x:AV),i<q→rows[i]? = some r→r[j]? = some x→∃ z,news[i*k+j]? = some z∧Den g.Φ x z:= by
  intro ad cp vs hu hs hlen hc
  refine⟨some ad,cp,hu,fun q hq=>?_⟩
  have cell:∀m,m<q*k→∃ i r j x,m=i*k+j∧i<q∧rows[i]? = some r∧r[j]? = some x:= by
   intro m hm
   have hi:m / k<q:=Nat.div_lt_of_lt_mul (by rwa [Z1g]at hm)
   have hj:m % k<k:=Nat.mod_lt _ hpos
   have hil:m / k<rows.length:= by omega
   have hrl:=hlen rows[m / k] (List.getElem_mem hil)
   refine⟨m / k,rows[m / k],m % k,(rows[m / k])[m % k]'(by omega),?_,hi,by simp[hil],by simp⟩
   have:=Nat.div_add_mod m k
   rw[Z1g]at this;omega
  refine⟨((Z04 (q*k)).map vs).toArray,?_,by simp,?_,hlen,fun i r j x hi hr hj=>?_⟩
  ·rw[hu]
   simp only[Builtin.firstCells]
   rw[run_loadCells w ad (q*k) vs (fun m hm=>by
    obtain⟨i,r,j,x,e,_,h1,h2⟩:=cell m hm
    rw[A7o hs,e]
    exact(hc i r j x h1 h2).1)]
  ·intro x hx
   simp at hx
   obtain⟨m,hm,rfl⟩:=hx
   obtain⟨i,r,j,y,e,_,h1,h2⟩:=cell m hm
   rw[e];exact(hc i r j y h1 h2).2.one
  ·have hjk:j<k:= by have h1:=(Ze.1 hj).1;have h2:=hlen r (Zw hr);omega
   have:=O3 (k:=k) hi
   have hlt:i*k+j<q*k:= by omega
   exact⟨vs (i*k+j),by simp[hlt],(hc i r j x hr hj).2⟩
 cases x <;> simp only[A0n]at hr <;> try (simp at hr;done)
 ·simp at hr
  subst hr
  cases hV with
  | den _ _ hd=>cases hd with|nils=>exact empty _ _ Z Z
 ·rename_i k' rows'
  simp at hr;subst hr
  simp[kOf]at hk;subst hk
  cases hV with
  | den _ _ hd =>
   cases hd with
   | seq0=>exact empty _ _ Z Z
   | seq _ _ ad cp vs hs hcap hlen h1 h2 =>
    refine general ad cp (fun m=>vs (m / k') (m % k')) Z hs hlen (fun i r j x hi hj=>?_)
    have hjk:j<k':= by have q1:=(Ze.1 hj).1;have q2:=hlen r (Zw hi);omega
    have e1:(i*k'+j) / k'=i:= by rw[Z1g,Nat.mul_add_div hpos,Nat.div_eq_of_lt hjk];omega
    have e2:(i*k'+j) % k'=j:= by rw[Z2u,Z3u,Z33 hjk]
    simp only[e1,e2]
    exact⟨hR.phi _ _ _ (h1 i r j x hi hj),h2 i r j x hi hj⟩
 ·rename_i b n
  split at hr
  ·next k2 pb rows2 hc =>
   split at hr
   ·next hn =>
    simp at hr;subst hr
    simp[kOf,hc]at hk;subst hk
    obtain⟨v0,hL,hbox⟩:=hR.arr hc
    have hu:=A4e hV hL (by rw[Y1 hbox];exact Zk hn)
    subst hu
    obtain⟨_,hk0,hlen,h0⟩:=hbox
    rcases h0 with⟨rfl,rfl⟩|⟨β,cp,e,cur,rfl,a5,a6,a7,a8,a9,a10,a11⟩
    ·exact empty _ _ Z Z
    ·refine general ⟨β,0,none⟩ cp (fun m=>(cur[m]?).getD undef) Z Z hlen (fun i r j x hi hj=>?_)
     obtain⟨z,hz,hd⟩:=a9 i r j x hi hj
     simp only[hz,ZW,Z1d]
     exact⟨by simpa [World.cell?,a7] using hz,hd⟩
   ·cases hr
  ·next hno =>
   split at hr
   ·next k2 rows2 _ hc =>
    split at hr
    ·next hn =>
     simp at hr;subst hr
     simp[kOf,hno,hc]at hk;subst hk
     obtain⟨v0,hL,hbox⟩:=hR.stk hc
     have hu:=A4e hV hL (by rw[Y1 hbox];exact Zk hn)
     subst hu
     obtain⟨_,hk0,hlen,h0⟩:=hbox
     rcases h0 with⟨rfl,rfl⟩|⟨β,cp,e,cur,rfl,a5,a6,a7,a8,a9,a10,a11⟩
     ·exact empty _ _ Z Z
     ·refine general ⟨β,0,none⟩ cp (fun m=>(cur[m]?).getD undef) Z Z hlen (fun i r j x hi hj=>?_)
      obtain⟨z,hz,hd⟩:=a9 i r j x hi hj
      simp only[hz,ZW,Z1d]
      exact⟨by simpa [World.cell?,a7] using hz,hd⟩
    ·cases hr
   ·cases hr
 ·rename_i b off k' n
  split at hr
  ·next cs hc =>
   split at hr
   ·next hble =>
    have hle:off+n*k'≤cs.length:=Zp hble
    simp at hr
    simp[kOf]at hk;subst hk
    obtain⟨β,e,hL,cur,c1,c2,c3,c4⟩:=hR.cells hc
    cases hV with
    | den _ _ hd=>cases hd
    | csa _ _ _ _ _ _ _ _ hL'=>rw[hL]at hL'; cases hL'
    | csl _ _ _ _ β' cp' e' hL' hcp' =>
     rw[hL]at hL'; cases hL'
     have hrl:rows.length=n:= by rw[← hr];simp
     have hget:∀i r,rows[i]? = some r→i<n∧r=(cs.drop (off+i*k')).take k':= by
      intro i r hi
      rw[← hr]at hi
      have hin:i<n:= by have:=(Ze.1 hi).1;simpa using this
      simp[hin]at hi
      exact⟨hin,hi.symm⟩
     have hlen:∀r∈rows,r.length=k':= by
      intro r hr'
      obtain⟨i,hi⟩:=Z1l hr'
      obtain⟨hin,rfl⟩:=hget i r hi
      have:=O3 (k:=k') hin
      simp;omega
     refine general ⟨β,off,none⟩ cp' (fun m=>(cur[off+m]?).getD undef) (by rw[hrl]) Z hlen (fun i r j x hi hj=>?_)
     obtain⟨hin,rfl⟩:=hget i r hi
     have hjk:j<k':= by have q1:=(Ze.1 hj).1;simp at q1;omega
     have hx:=C1p hfr hi hj
     rw[ZO hjk,ZV]at hj
     obtain⟨z,hz,hV',_⟩:=c3 _ x hj
     have e1:off+(i*k'+j)=off+i*k'+j:= by omega
     simp only[e1,hz,ZW]
     exact⟨by simpa [World.cell?,c1] using hz,B3f hx hV'⟩
   ·cases hr
  ·cases hr
theorem D1u {x:AV} {u:Value} (h:matchV x u=true) (ho:u.oneCell'=true):x.frz=true:= by
 cases x <;> first|rfl|skip
 all_goals simp only[matchV]at h
 all_goals first|(cases h;done)|skip
 all_goals split at h <;> first|(cases ho;done)|cases h
theorem B81:∀{l:List AV} {vs:List Value},matchVs l vs=true→vs.all Value.oneCell'=true→l.all AV.frz=true
 | [],_,_,_=>rfl
 | x::l,[],h,_=>by simp[matchVs]at h
 | x::l,v::vs,h,ho=>by
  simp[matchVs]at h
  simp at ho
  simp only[ZS,Zc]
  exact⟨D1u h.1 ho.1,B81 h.2 (by simpa using ho.2)⟩
theorem C3o {P:Program} {t:TypeId} {zs:List AV} (h:A9t P t zs=true):zs.all AV.frz=true:= by
 unfold A9t at h
 split at h
 ·simp only[Zc]at h
  exact B81 h.1.1 h.2
 ·cases h
theorem D5f {k by_:Nat} {z:List AV} {l cp:Opd} {r:Nat} (hm:D1 P o.op (.mkslice k by_ z l cp r)=true) (hR:Rel MC P B0 H g w) (hS:D7 g s a.tmps) (hF:Free H g n0 [r])
  (h:prim c n0 s H (.mkslice k by_ z l cp r)=some (v,H')):Does MC P B0 a o [n0+r] H g w v H':= by
 simp only[D1]at hm
 split at hm
 ·next t l' c' hop =>
  split at hm
  ·next e hsl =>
   simp only[Zc]at hm
   obtain⟨⟨⟨⟨⟨h1,h2⟩,h3⟩,h4⟩,h5⟩,h6⟩:=hm
   have hu:=S9 hsl
   have hk:P.cellsOf e=k:= by simpa using h1
   have hby:P.bytesOf e=by_:= by simpa using h2
   have hpos:0<k:= by simpa using h4
   obtain⟨i,zv,hi,hz,hC,hkz⟩:=A6t h3 g
   simp only[prim]at h
   split at h
   ·next n n' hp hq =>
    split at h
    ·next hb =>
     obtain⟨b1,b2,b3,b4⟩:=hb
     subst b1
     simp at h;obtain⟨rfl,rfl⟩:=h
     obtain⟨hi0,hnn⟩:=hF r (by simp)
     have e1:=B5j (L6 hS h5 hp)
     have e2:=B5j (L6 hS h6 hq)
     have hwrap:IntKind.i64.wrap n=n:= by
      unfold IntKind.wrap
      simp[IntKind.bits,IntKind.signed]
      omega
     have hib:i.bytes=by_:= by rw[← hby];simp[Program.bytesOf,hi]
     have his:i.size=k:= by rw[← hk];simp[Program.cellsOf,hi]
     have hrz:=B8i (n:=n.toNat) hC (by omega) hpos
     have hrun:=run_make (P:=P) w t e i zv hu hi hz .i64 .i64 n n b2 (Z02 _) (by rw[hib,Int.mul_comm];omega) (by omega)
     rw[his]at hrun
     obtain⟨q1,q2,q3⟩:=hrz
     have hfz:=C3o h3
     have:=hR.alloc hi0 hnn (.cells (madeCells zv.cells (n.toNat*k)) e) (o':=.arr k false (Zv n.toNat z)) (gb':=.arr k (.slice (some ⟨w.heap.size,0,none⟩) n.toNat n.toNat)) Z
      ⟨Z,hpos,q2,.inr ⟨w.heap.size,n.toNat,e,_,by simp,by simp,by simp only[maxLen];omega,heap_alloc_new w _,by simp[madeCells],fun i r j x hi hj=>?_,fun _ off=>hR.phi_none (Zn _),by simp⟩⟩
     ·refine⟨.slice (some ⟨w.heap.size,0,none⟩) n.toNat n.toNat,_,_,.inl ?_,?_,this.1,this.2,by simp[hset],A7y (by simp) _ _⟩
      ·simp[execOp,hop,e1,e2,hrun]
      ·exact .asl _ _ k _ _ (by simp[J0]) (by simp[slen]) Z (fun _=>rfl)
     ·obtain⟨u,hu',hV,ho⟩:=q3 i r j x hi hj
      have hr:r=z:=(Z1i.1 (Zw hi)).2
      subst hr
      exact⟨u,hu',show Den g.Φ x u from B3f (Zq.1 hfz x (Zw hj)) hV⟩
    ·cases h
   ·cases h
  ·cases hm
 ·cases hm
end
section
variable {MC:Nat→Code→ACode→Prop} {P:Program} {B0:Nat} {c:Sc} {n0:Nat} {H H':A2} {g:Ghost} {w:World} {s:C2} {a:Act} {o:Oper} {v:AV}
theorem Rel.drew (hR:Rel MC P B0 H g w):Rel MC P B0 H g w.drew :=
 ⟨hR.phi,hR.base,hR.inj,fun i o ho=>(hR.box i o ho).mono (Ghost.le_refl g) (fun _ _=>⟨Z,fun _=>rfl⟩),hR.nolive,hR.b0⟩
theorem Ext.drew (H:A2) (g:Ghost) (w:World):Ext H g w H g w.drew :=
 ⟨Zn _,Z,Z,Z,Zn _,Ghost.le_refl g,fun _ _ h=>.inl h,fun _ _ _ _ _=>rfl,fun i o h k=>.inr ⟨o,h,k⟩,fun _ _ _=>⟨Z,fun _=>rfl⟩⟩
section
variable {t u ty e e2:TypeId} {i:TypeInfo} {z:Value} (ht:P.underlying t=some (.slice e)) (hu:P.underlying u=some (.slice e2)) (hi:P.info? e=some i) (hz:i.zero=some z)
include ht hu hi hz
omit hz in
theorem B9f (c m:Nat) (ad:Option Addr) (cp n:Nat) {news:Array Value} (hx:(Builtin.firstCells i.size m (.slice ad m cp)).run P w=.ok news w) (hroom:n+m≤c) :
  (Builtin.append_ #[t,u] ty #[.slice none n c,.slice ad m cp]).run P w=.ok (.slice none (n+m) c) w:= by
 simp[Builtin.append_,run_underlying ht,run_underlying hu,Go.sizeOf,typeInfo,hi,Builtin.lenOf,hroom,hx]
omit hz in
theorem B6v (e':TypeId) (β c m:Nat) (ad:Option Addr) (cp n:Nat) {news cur:Array Value} (hx:(Builtin.firstCells i.size m (.slice ad m cp)).run P w=.ok news w) (hroom:n+m≤c)
  (hg:w.heap[β]? = some (.cells cur e' (0,0))) (hfit:n*i.size+news.size≤cur.size) (h1:∀x∈news.toList,x.oneCell'=true) :
  (Builtin.append_ #[t,u] ty #[.slice (some ⟨β,0,none⟩) n c,.slice ad m cp]).run P w =
   .ok (.slice (some ⟨β,0,none⟩) (n+m) c) (w.setRow β (cur.toList.take (n*i.size)++news.toList++cur.toList.drop (n*i.size+news.toList.length)).toArray):= by
 have hst:=run_storeCells_at P β (n*i.size) e' news.toList 0 cur w hg (by simpa using hfit) h1
 simp only[Z1e]at hst
 simp[Builtin.append_,run_underlying ht,run_underlying hu,Go.sizeOf,typeInfo,hi,Builtin.lenOf,hroom,hx,Addr.add_lit,hst]
theorem B1g (b:Option Addr) (c m:Nat) (ad:Option Addr) (cp n:Nat) {news olds:Array Value} (hx:(Builtin.firstCells i.size m (.slice ad m cp)).run P w.drew=.ok news w.drew)
  (ho:(Builtin.firstCells i.size n (.slice b n c)).run P w.drew=.ok olds w.drew) (hroom:¬ n+m≤c)
  (h63:((n+m:Nat):Int)≤9223372036854775807) (hfit:Builtin.nextslicecap (n+m) c*i.bytes≤281474976710656) :
  (Builtin.append_ #[t,u] ty #[.slice b n c,.slice ad m cp]).run P w =
   .ok (.slice (some ⟨w.heap.size,0,none⟩) (n+m) (grownCap w (n+m) c e)) (w.drew.alloc (.cells (olds++news++Builtin.zeroCells z.cells (grownCap w (n+m) c e-(n+m))) e)):= by
 have h63':¬ (9223372036854775807<((n:Int)+(m:Int))):= by omega
 have h48':¬ (281474976710656<Builtin.nextslicecap (n+m) c*i.bytes):= by omega
 simp[Builtin.append_,run_underlying ht,run_underlying hu,Go.sizeOf,typeInfo,zeroValue,hi,hz,Builtin.lenOf,hroom,h63',h48',Question.forced,hx,ho,newRow,grownCap]
end
theorem C26 {k:Nat} {rows new:List (List AV)} {Φ:Nat→Nat→Option Value} (hlen:∀r∈rows,r.length=k) (hlen2:∀r∈new,r.length=k) {cur':Nat→Option Value}
  (h9:∀(i:Nat) (r:List AV) (j:Nat) (x:AV),rows[i]? = some r→r[j]? = some x→∃ u,cur' (i*k+j)=some u∧Den Φ x u)
  (hn:∀(i:Nat) (r:List AV) (j:Nat) (x:AV),new[i]? = some r→r[j]? = some x→∃ u,cur' (rows.length*k+(i*k+j))=some u∧Den Φ x u) :
  (∀ r∈rows++new,r.length=k)∧∀ (i:Nat) (r:List AV) (j:Nat) (x:AV),(rows++new)[i]? = some r→r[j]? = some x→∃ u,cur' (i*k+j)=some u∧Den Φ x u:= by
 refine⟨fun r hr=>(List.mem_append.1 hr).elim (hlen r) (hlen2 r),fun i r j x hi hj=>?_⟩
 rw[ZP]at hi
 split at hi
 ·exact h9 i r j x hi hj
 ·next h =>
  obtain⟨u,h1,h2⟩:=hn _ r j x hi hj
  refine⟨u,?_,h2⟩
  rw[← h1];congr 1
  rw[← Z03,← Z21]
  congr 2;omega
theorem Rel.kill (hR:Rel MC P B0 H g w) {b:Nat} (hb:∃ob,H[b]? = some ob∧ob.isV=true):Rel MC P B0 (H.set b .dead) g w∧Ext H g w (H.set b .dead) g w:= by
 obtain⟨ob,h1,h2⟩:=hb
 have hi:=(Ze.1 h1).1
 have e1:J0 g.L b (g.L b)=g.L:= by funext j;simp only[J0];split;(next e=>rw[e]);rfl
 have:=hR.upd hi (.inl ⟨_,h1,h2⟩) (o':=.dead) (gb':=g.L b) (Φ':=g.Φ) (w':=w) Z Z Z (Zn _) (fun _ _ _=>rfl) (GB.le_refl _)
   (fun β hβ=>⟨.inl hβ,(hR.base b β hβ).2⟩) (fun _ _ _ h=>h) (fun _ _ _ _=>rfl) (fun β off u h=>hR.phi β off u h) trivial
 rw[e1]at this
 exact this
theorem B17 {k by_:Nat} {e:TypeId} {z:Value} {rows new:List (List AV)} {olds news:Array Value} {Φ:Nat→Nat→Option Value} {need cap:Nat} (hzs:z.cells.size=k)
  (hlen:∀r∈rows,r.length=k) (hlen2:∀r∈new,r.length=k) (ho:olds.size=rows.length*k) (hn:news.size=new.length*k) (hneed:need=rows.length+new.length) (hcap:need≤cap)
  (h9:∀(i:Nat) (r:List AV) (j:Nat) (x:AV),rows[i]? = some r→r[j]? = some x→∃ u,olds[i*k+j]? = some u∧Den Φ x u)
  (h10:∀(i:Nat) (r:List AV) (j:Nat) (x:AV),new[i]? = some r→r[j]? = some x→∃ u,news[i*k+j]? = some u∧Den Φ x u) :
  (∀ r∈rows++new,r.length=k)∧(olds++news++Builtin.zeroCells z.cells (cap-need)).size=cap*k ∧
  ∀ (i:Nat) (r:List AV) (j:Nat) (x:AV),(rows++new)[i]? = some r→r[j]? = some x→∃ u,(olds++news++Builtin.zeroCells z.cells (cap-need))[i*k+j]? = some u∧Den Φ x u:= by
 have hget:∀q,q<olds.size→(olds++news++Builtin.zeroCells z.cells (cap-need))[q]? = olds[q]?:=fun q hq=>by
  rw[Z3r,Z38,if_pos hq]
 have hget2:∀q,q<news.size→(olds++news++Builtin.zeroCells z.cells (cap-need))[olds.size+q]? = news[q]?:=fun q hq=>by
  rw[Z3r,Z38,if_neg (by omega),Z38,if_pos (by omega)]
  congr 1;omega
 obtain⟨a1,a2⟩:=C26 (cur':=fun q=>(olds++news++Builtin.zeroCells z.cells (cap-need))[q]?) hlen hlen2 (Φ:=Φ) (fun i r j x hi hj=>by
  obtain⟨u,h1,h2⟩:=h9 i r j x hi hj
  exact⟨u,(hget _ (Z0d.1 h1).1).trans h1,h2⟩) (fun i r j x hi hj=>by
  obtain⟨u,h1,h2⟩:=h10 i r j x hi hj
  refine⟨u,?_,h2⟩
  show _=_
  rw[← ho]
  exact(hget2 _ (Z0d.1 h1).1).trans h1)
 refine⟨a1,?_,a2⟩
 simp only[Array.size_append,size_zeroCells,hzs,ho,hn,← Z21]
 congr 1;omega
theorem Rel.moved (hR:Rel MC P B0 H g w) {b k:Nat} {p:Bool} {rows rows':List (List AV)} {v0:Value} (hb:H[b]? = some (.arr k p rows)) (hL:g.L b=.arr k v0) {cur:Array Value} {e:TypeId} {cap:Nat} (hpos:0<k)
  (h1:rows'.length≤cap) (h2:cap≤maxLen) (h3:cur.size=cap*k) (h4:∀r∈rows',r.length=k)
  (h5:∀(i:Nat) (r:List AV) (j:Nat) (x:AV),rows'[i]? = some r→r[j]? = some x→∃ u,cur[i*k+j]? = some u∧Den g.Φ x u) (hlt:slen v0<rows'.length) :
  ∃ g',Rel MC P B0 (H.set b (.arr k p rows')) g' (w.alloc (.cells cur e))∧Ext H g w (H.set b (.arr k p rows')) g' (w.alloc (.cells cur e))∧g'.L b=.arr k (.slice (some ⟨w.heap.size,0,none⟩) rows'.length cap)∧∀ i,g.L i=.none→g'.L i=.none:= by
 have hi:=(Ze.1 hb).1
 have hb0:=hR.phi_none (β:=w.heap.size) (off:=0) (Zn _)
 have hcur:rows'.length*k≤cur.size:= by rw[h3];exact ZQ _ h1
 have hΦ:∀β off u,g.Φ β off=some u→(if p=true∧β=w.heap.size∧off<rows'.length*k then cur[off]? else g.Φ β off)=some u:= by
  intro β off u h
  have:=hR.phi_lt h
  rw[if_neg (by omega)];exact h
 have:=hR.upd hi (.inl ⟨_,hb,Z⟩) (o':=.arr k p rows') (gb':=.arr k (.slice (some ⟨w.heap.size,0,none⟩) rows'.length cap)) (Φ':=fun β off=>if p=true∧β=w.heap.size∧off<rows'.length*k then cur[off]? else g.Φ β off)
  (w':=w.alloc (.cells cur e)) Z Z Z (by simp) (fun β hβ _=>heap_alloc_old w _ β hβ) (by rw[hL];exact .inr ⟨_,Z,by simpa [slen] using hlt⟩)
  (fun β hβ=>by simp[GB.blk]at hβ;subst hβ;exact⟨.inr (Zn _),by simp⟩) hΦ (fun β hβ _ off=>by
   have:¬ (p=true∧β=w.heap.size∧off<rows'.length*k):= by omega
   simp only[if_neg this]) (fun β off u h=>by
   try simp only at h
   split at h
   ·next e1=>obtain⟨_,rfl,_⟩:=e1;simp[h]
   ·rw[World.cell?_alloc_lt _ _ _ (hR.phi_lt h)];exact hR.phi β off u h)
  ⟨Z,hpos,h4,.inr ⟨w.heap.size,cap,e,cur,Z,h1,h2,heap_alloc_new w _,h3,fun i r j x hi hj=>by
    obtain⟨u,hu,hd⟩:=h5 i r j x hi hj
    exact⟨u,hu,hd.mono hΦ⟩,fun hp off=>by simp[hp];exact hR.phi_none (Zn _),fun hp=>⟨fun off ho=>by simp[hp,ho],fun off ho=>by
     show (if p=true∧w.heap.size=w.heap.size∧off<rows'.length*k then cur[off]? else g.Φ w.heap.size off)=none
     rw[if_neg (by omega)];exact hR.phi_none (Zn _)⟩⟩⟩
 refine⟨_,this.1,this.2,by simp[J0],fun j hj=>?_⟩
 have hne:j≠b:= by intro e;subst e;rw[hL]at hj;cases hj
 simpa [J0,hne] using hj
theorem Rel.grewIn (hR:Rel MC P B0 H g w) {b k:Nat} {p:Bool} {rows new:List (List AV)} {β cp:Nat} (hb:H[b]? = some (.arr k p rows)) (hL:g.L b=.arr k (.slice (some ⟨β,0,none⟩) rows.length cp)) {cur cur':Array Value} {e:TypeId}
  (hg:w.heap[β]? = some (.cells cur e (0,0))) (hpos:0<k) (h1:(rows++new).length≤cp) (h2:cp≤maxLen) (h3:cur.size=cp*k) (h3':cur'.size=cp*k) (h4:∀r∈rows++new,r.length=k)
  (hold:∀off,off<rows.length*k→cur'[off]? = cur[off]?) (hΦp:p=false→∀ o,g.Φ β o=none) (hΦt:p=true→(∀ o,o<rows.length*k→g.Φ β o=cur[o]?)∧∀ o,rows.length*k≤o→g.Φ β o=none)
  (h5:∀(i:Nat) (r:List AV) (j:Nat) (x:AV),(rows++new)[i]? = some r→r[j]? = some x→∃ u,cur'[i*k+j]? = some u∧Den g.Φ x u) :
  ∃ g',Rel MC P B0 (H.set b (.arr k p (rows++new))) g' (w.setRow β cur')∧Ext H g w (H.set b (.arr k p (rows++new))) g' (w.setRow β cur')∧g'.L b=.arr k (.slice (some ⟨β,0,none⟩) (rows++new).length cp)∧∀ i,g.L i=.none→g'.L i=.none:= by
 have hcur:(rows++new).length*k≤cur'.size:= by rw[h3'];exact ZQ _ h1
 have hrl:rows.length*k≤(rows++new).length*k:=ZQ _ (by simp)
 have hΦ:∀γ off u,g.Φ γ off=some u→(if p=true∧γ=β∧off<(rows++new).length*k then cur'[off]? else g.Φ γ off)=some u:= by
  intro γ off u h
  split
  ·next e1 =>
   obtain⟨hp,rfl,ho⟩:=e1
   obtain⟨t1,t2⟩:=hΦt hp
   by_cases ho2:off<rows.length*k
   ·rw[hold off ho2,← t1 off ho2];exact h
   ·rw[t2 off (by omega)]at h;cases h
  ·exact h
 have:=hR.write (b:=b) ⟨_,hb,Z⟩ (by rw[hL];rfl) hg cur' (o':=.arr k p (rows++new)) (gb':=.arr k (.slice (some ⟨β,0,none⟩) (rows++new).length cp))
  (by
   rw[hL]
   rcases Nat.eq_zero_or_pos new.length with h0|h0
   ·left;simp[h0]
   ·right;exact⟨_,Z,by simp[slen];omega⟩) Z (fun off hs=>by
   cases hp:p with
   | false=>rw[hΦp hp off]at hs;cases hs
   | true =>
    obtain⟨t1,t2⟩:=hΦt hp
    by_cases ho2:off<rows.length*k
    ·rw[hold off ho2,← t1 off ho2]
    ·rw[t2 off (by omega)]at hs;cases hs)
  (Φ':=fun γ off=>if p=true∧γ=β∧off<(rows++new).length*k then cur'[off]? else g.Φ γ off) (fun γ off hne=>by
   have:¬ (p=true∧γ=β∧off<(rows++new).length*k):=fun h=>hne h.2.1
   simp only[if_neg this]) (fun off u h=>hΦ β off u h) (fun off u h=>by
   try simp only at h
   split at h
   ·exact h
   ·next e1 =>
    cases hp:p with
    | false=>rw[hΦp hp off]at h;cases h
    | true =>
     obtain⟨t1,t2⟩:=hΦt hp
     by_cases ho2:off<rows.length*k
     ·rw[hold off ho2,← t1 off ho2];exact h
     ·rw[t2 off (by omega)]at h;cases h)
  ⟨Z,hpos,h4,.inr ⟨β,cp,e,cur',Z,h1,h2,setRow_heap w β cur _ e (0,0) hg,h3',fun i r j x hi hj=>by
    obtain⟨u,hu,hd⟩:=h5 i r j x hi hj
    exact⟨u,hu,hd.mono hΦ⟩,fun hp off=>by simp[hp];exact hΦp hp off,fun hp=>⟨fun off ho=>by simp[hp];intro hc;simp at ho;omega,fun off ho=>by
     show (if p=true∧β=β∧off<(rows++new).length*k then cur'[off]? else g.Φ β off)=none
     rw[if_neg (by omega)];exact(hΦt hp).2 off (by omega)⟩⟩⟩
 refine⟨_,this.1,this.2,by simp[J0],fun j hj=>?_⟩
 have hne:j≠b:= by intro e;subst e;rw[hL]at hj;cases hj
 simpa [J0,hne] using hj
theorem B6y {H:A2} {b:Nat} {ob:AO} (h:H[b]? = some ob):H.set b ob=H:= by
 apply List.ext_getElem?
 intro j
 rw[ZJ]
 by_cases e:b=j
 ·subst e
  have:=(Ze.1 h).1
  rw[if_pos Z,if_pos this,h]
 ·rw[if_neg e]
theorem D79 {H:A2} {b:Nat} (hno:(H.drop (b+1)).all (fun o=>!o.grew b)=true) (j:Nat):¬ Shr H b j:= by
 rintro⟨h0,k,rows,anc,rows',anc',h1,h2,_,_⟩
 rw[Zq]at hno
 have hm:∀o,H[j]? = some o→o∈H.drop (b+1):=fun o ho=>Zw (i:=j-(b+1)) (by rw[ZV,show b+1+(j-(b+1))=j by omega];exact ho)
 unfold hstk hget at h1
 split at h1
 ·have:=hno _ (hm _ (by assumption))
  simp at h1
  obtain⟨rfl,rfl,rfl⟩:=h1
  simp[AO.grew,h2]at this
 ·have:=hno _ (hm _ (by assumption))
  simp at h1
  obtain⟨rfl,rfl,rfl⟩:=h1
  simp[AO.grew,h2]at this
 ·cases h1
theorem Rel.pushIn (hR:Rel MC P B0 H g w) {b i0 k:Nat} {q:List Nat} {rows new:List (List AV)} {β cp:Nat} (hb:H[b]? = some (.stk k rows q)) (hno:(H.drop (b+1)).all (fun o=>!o.grew b)=true) (hlt:b<i0) (hi0:i0<H.length) (hn:g.L i0=.none)
  (hL:g.L b=.arr k (.slice (some ⟨β,0,none⟩) rows.length cp)) {cur cur':Array Value} {e:TypeId}
  (hg:w.heap[β]? = some (.cells cur e (0,0))) (hpos:0<k) (hnew:0<new.length) (h1:(rows++new).length≤cp) (h2:cp≤maxLen) (h3:cur.size=cp*k) (h3':cur'.size=cp*k) (h4:∀r∈rows++new,r.length=k)
  (hold:∀off,off<rows.length*k→cur'[off]? = cur[off]?) (hΦ:∀o,g.Φ β o=none)
  (h5:∀(i:Nat) (r:List AV) (j:Nat) (x:AV),(rows++new)[i]? = some r→r[j]? = some x→∃ u,cur'[i*k+j]? = some u∧Den g.Φ x u) :
  Rel MC P B0 (H.set i0 (.stk k (rows++new) (b::q))) ⟨J0 g.L i0 (.arr k (.slice (some ⟨β,0,none⟩) (rows++new).length cp)),g.Φ,g.gl⟩ (w.setRow β cur') ∧
  Ext H g w (H.set i0 (.stk k (rows++new) (b::q))) ⟨J0 g.L i0 (.arr k (.slice (some ⟨β,0,none⟩) (rows++new).length cp)),g.Φ,g.gl⟩ (w.setRow β cur'):= by
 have hbβ:(g.L b).blk=some β:= by rw[hL];rfl
 have hbase:=hR.base b β hbβ
 have hbi:b≠i0:= by omega
 have hstkb:hstk H b=some (k,rows,q):= by unfold hstk hget;rw[hb]
 have hyoung:=D79 hno
 have hle:g.le ⟨J0 g.L i0 (.arr k (.slice (some ⟨β,0,none⟩) (rows++new).length cp)),g.Φ,g.gl⟩:=⟨fun j=>by
  by_cases e:j=i0
  ·subst e;rw[hn];trivial
  ·simp only[J0,if_neg e];exact GB.le_refl _,fun _ _ _ h=>h⟩
 have helder:∀j,(g.L j).blk=some β→j=b∨Shr H j b:=fun j hj=>by
  rcases hR.inj j b β hj hbβ with e|e|e
  ·exact .inl e
  ·exact .inr e
  ·exact absurd e (hyoung j)
 have hother:∀γ,γ≠β→(w.setRow β cur').heap[γ]? = w.heap[γ]?:=fun γ hγ=>A7g _ _ _ _ hγ
 have hnoneblk:∀j γ,(g.L j).blk=some γ→j≠i0:=fun j γ hj e=>by subst e;rw[hn]at hj;simp[GB.blk]at hj
 refine⟨⟨fun γ off u h=>?_,?_,?_,?_,?_,by have:=hR.b0;simpa [World.setRow] using this⟩,⟨by simp,Z,Z,Z,by simp[World.setRow],hle,?_,?_,?_,?_⟩⟩
 ·have hne:γ≠β:=fun e=>by subst e;rw[hΦ]at h;cases h
  have:=hR.phi γ off u h
  unfold World.cell? at this ⊢
  rw[hother γ hne];exact this
 ·intro j γ hj
  simp only[J0]at hj
  split at hj
  ·simp[GB.blk]at hj;subst hj
   exact⟨hbase.1,by simpa [World.setRow] using hbase.2⟩
  ·have:=hR.base j γ hj
   exact⟨this.1,by simpa [World.setRow] using this.2⟩
 ·intro j j' γ hj hj'
  have hnew0:hstk (H.set i0 (.stk k (rows++new) (b::q))) i0=some (k,rows++new,b::q):= by
   unfold hstk hget
   rw[ZJ,if_pos Z,if_pos hi0]
  have hsh:∀m,m≠i0→(g.L m).blk=some β→Shr (H.set i0 (.stk k (rows++new) (b::q))) m i0:=fun m hm hmb=>by
   have hlen:rows.length<(rows++new).length:= by rw[Zo];omega
   rcases helder m hmb with rfl|⟨c0,k1,r1,a1,r2,a2,c1,c2,c3,c4⟩
   ·exact⟨hlt,k,rows++new,m::q,rows,q,hnew0,Zy ..,by rw[B55 hm];exact hstkb,hlen⟩
   ·rw[hstkb]at c1
    simp only[Za,Zf]at c1
    obtain⟨rfl,rfl,rfl⟩:=c1
    exact⟨by omega,k,rows++new,b::q,r2,a2,hnew0,List.mem_cons_of_mem _ c2,by rw[B55 hm];exact c3,by omega⟩
  simp only[J0]at hj hj'
  split at hj <;> split at hj'
  ·left;omega
  ·next e1 e2 =>
   simp[GB.blk]at hj;subst hj e1
   exact .inr (.inr (hsh j' e2 hj'))
  ·next e1 e2 =>
   simp[GB.blk]at hj'; subst hj' e2
   exact .inr (.inl (hsh j e1 hj))
  ·next e1 e2=>exact(hR.inj j j' γ hj hj').imp id (Or.imp (fun q=>q.set e1 e2) (fun q=>q.set e2 e1))
 ·intro j o hj
  rw[ZJ]at hj
  by_cases e0:i0=j
  ·subst e0
   rw[if_pos Z,if_pos hi0]at hj
   cases hj
   simp only[J0,if_true,AO.rd]
   exact⟨Z,hpos,h4,.inr ⟨β,cp,e,cur',Z,h1,h2,setRow_heap w β cur _ e (0,0) hg,h3',h5,fun _=>hΦ,fun h=>by cases h⟩⟩
  ·rw[if_neg e0]at hj
   have hne:j≠i0:=fun h=>e0 h.symm
   simp only[J0,if_neg hne]
   have hbx:=hR.box j o hj
   by_cases hjb:(g.L j).blk=some β
   ·have:∃rows' q',hstk H j=some (k,rows',q')∧rows'.length≤rows.length:= by
     rcases helder j hjb with rfl|⟨c0,k1,r1,a1,r2,a2,c1,c2,c3,c4⟩
     ·exact⟨rows,q,hstkb,Zn _⟩
     ·rw[hstkb]at c1
      simp only[Za,Zf]at c1
      obtain⟨rfl,rfl,rfl⟩:=c1
      exact⟨r2,a2,c3,by omega⟩
    obtain⟨rows',q',hs,hl⟩:=this
    obtain⟨o2,ho2,hrd⟩:=D3h hs
    rw[hj]at ho2;cases ho2
    have hrd:o.rd=.stk k rows' q':=hrd
    rw[hrd]at hbx ⊢
    cases hgb:g.L j with
    | arr k' v =>
     rw[hgb]at hbx hjb
     obtain⟨rfl,a1,a2,a3⟩:=hbx
     refine⟨Z,a1,a2,?_⟩
     rcases a3 with a3|⟨β',c,e',cur1,rfl,a5,a6,a7,a8,a9,a10,a11⟩
     ·obtain⟨_,rfl⟩:=a3
      simp[GB.blk]at hjb
     ·simp[GB.blk]at hjb;subst hjb
      rw[hg]at a7;cases a7
      refine .inr ⟨β',c,e,cur',Z,a5,a6,setRow_heap w β' cur _ e (0,0) hg,by rw[h3',← h3,a8],fun i r x y hi hx=>?_,a10,fun h=>by cases h⟩
      obtain⟨u,hu,hd⟩:=a9 i r x y hi hx
      refine⟨u,?_,hd⟩
      have hik:=(Ze.1 hi).1
      have hxk:=(Ze.1 hx).1
      have hrk:=a2 r (Zw hi)
      have:=O3 (show i<rows.length by omega) (k:=r.length)
      rw[hrk]at this hxk
      rw[hold _ (by omega)];exact hu
    | _=>rw[hgb]at hbx;exact hbx.elim
   ·exact hbx.mono hle (fun γ hγ=>⟨hother γ (fun e=>hjb (by rw[hγ,e])),fun _=>rfl⟩)
 ·intro j hj
  have hne:j≠i0:= by have:H.length≤j:= by simpa using hj
                     omega
  simp only[J0,if_neg hne]
  exact hR.nolive j (by simpa using hj)
 ·intro j γ hj
  simp only[J0]at hj
  split at hj
  ·simp[GB.blk]at hj;subst hj
   exact .inr (.inr ⟨b,_,hb,Z,hbβ⟩)
  ·exact .inl hj
 ·intro j o hj hw hnn
  simp only[J0]
  split
  ·next e=>subst e;exact absurd hn hnn
  ·rfl
 ·intro j o' hj hw
  by_cases e:j=i0
  ·subst e;exact .inl hn
  ·rw[ZJ,if_neg (fun h=>e h.symm)]at hj
   exact .inr ⟨_,hj,hw⟩
 ·intro γ hγ hnh
  exact⟨hother γ (fun e=>hnh b _ hb Z (by rw[e];exact hbβ)),fun _=>rfl⟩
theorem D6l (hR:Rel MC P B0 H g w) {t u ty e e2:TypeId} {i:TypeInfo} {z:Value} (ht:P.underlying t=some (.slice e)) (hu:P.underlying u=some (.slice e2)) (hi:P.info? e=some i) (hz:i.zero=some z) {k:Nat} (his:i.size=k) (hpos:0<k) (hzs:z.cells.size=k)
  {b:Nat} {p:Bool} {rows new:List (List AV)} {v0:Value} (hb:H[b]? = some (.arr k p rows)) (hL:g.L b=.arr k v0) (hbox:A0c MC P g w (.arr k p rows) (.arr k v0)) {ad:Option Addr} {cp:Nat} {news newd:Array Value}
  (hn1:(Builtin.firstCells k new.length (.slice ad new.length cp)).run P w=.ok news w) (hn2:news.size=new.length*k) (hn3:∀x∈news.toList,x.oneCell'=true)
  (hn5:∀(i:Nat) (r:List AV) (j:Nat) (x:AV),new[i]? = some r→r[j]? = some x→∃ u,news[i*k+j]? = some u∧Den g.Φ x u)
  (hd1:(Builtin.firstCells k new.length (.slice ad new.length cp)).run P w.drew=.ok newd w.drew) (hd2:newd.size=new.length*k) (hd4:∀r∈new,r.length=k)
  (hd5:∀(i:Nat) (r:List AV) (j:Nat) (x:AV),new[i]? = some r→r[j]? = some x→∃ u,newd[i*k+j]? = some u∧Den g.Φ x u)
  (h63:rows.length+new.length≤maxLen) (hbytes:(rows.length+new.length)*i.bytes≤140737488355328) :
  ∃ x w' g',(Builtin.append_ #[t,u] ty #[v0,.slice ad new.length cp]).run P w=.ok x w'∧Rel MC P B0 (H.set b (.arr k p (rows++new))) g' w'∧Ext H g w (H.set b (.arr k p (rows++new))) g' w'∧g'.L b=.arr k x ∧
   x.oneCell'=true∧∀ i,g.L i=.none→g'.L i=.none:= by
 subst his
 have hsl:=Y1 hbox
 have hmx:maxLen≤9223372036854775807:= by simp[maxLen]
 obtain⟨_,hk0,hlen,h0⟩:=hbox
 have olds:∃(bo:Option Addr) (cp0:Nat) (olds:Array Value),v0=.slice bo rows.length cp0∧rows.length≤cp0∧(Builtin.firstCells i.size rows.length (.slice bo rows.length cp0)).run P w.drew=.ok olds w.drew∧olds.size=rows.length*i.size ∧
   (∀ (i':Nat) (r:List AV) (j:Nat) (x:AV),rows[i']? = some r→r[j]? = some x→∃ u,olds[i' * i.size+j]? = some u∧Den g.Φ x u):= by
  rcases h0 with⟨rfl,rfl⟩|⟨β,cp0,e',cur,rfl,a5,a6,a7,a8,a9,a10,a11⟩
  ·exact⟨none,0,#[],Z,Zn _,by simp[Builtin.firstCells],by simp,by simp⟩
  ·have hsz:rows.length*i.size≤cur.size:= by rw[a8];exact ZQ _ a5
   refine⟨_,cp0,((Z04 (rows.length*i.size)).map fun m=>(cur[m]?).getD undef).toArray,Z,a5,?_,by simp,fun i' r j x hi' hj=>?_⟩
   ·simp only[Builtin.firstCells]
    rw[run_loadCells (P:=P) w.drew ⟨β,0,none⟩ (rows.length*i.size) (fun m=>(cur[m]?).getD undef) (fun m hm=>by
     rw[A7o Z]
     have:w.drew.heap[β]? = some (.cells cur e' (0,0)):=a7
     have hml:m<cur.size:= by omega
     simp[World.cell?,this,hml])]
   ·obtain⟨u,hu,hd⟩:=a9 i' r j x hi' hj
    have hjk:j<i.size:= by have h1:=(Ze.1 hj).1;have h2:=hlen r (Zw hi');omega
    have:=O3 (k:=i.size) (Ze.1 hi').1
    have hlt:i' * i.size+j<rows.length*i.size:= by omega
    exact⟨u,by simp[hlt,hu],hd⟩
 obtain⟨bo,cp0,olds,rfl,hcp0,ho1,ho2,ho3⟩:=olds
 by_cases hroom:rows.length+new.length≤cp0
 ·rcases h0 with⟨rfl,hv⟩|⟨β,cp1,e',cur,hv,a5,a6,a7,a8,a9,a10,a11⟩
  ·cases hv
   have hm0:new=[]:=Z15 (by simpa using hroom)
   subst hm0
   refine⟨_,w,g,B9f ht hu hi 0 0 ad cp 0 hn1 (by simp),?_,?_,by simpa using hL,Z,fun i h=>h⟩
   ·rw[ZY,B6y hb];exact hR
   ·rw[ZY,B6y hb];exact Ext.refl _ _ _
  ·cases hv
   have hsz:rows.length*i.size+new.length*i.size≤cur.size:= by rw[a8,← Z21];exact ZQ _ hroom
   have hrun:=B6v (ty:=ty) ht hu hi e' β cp0 new.length ad cp rows.length hn1 hroom a7 (by omega) hn3
   have hlt:(cur.toList.take (rows.length*i.size)).length=rows.length*i.size:= by simp;omega
   have get:∀q,((cur.toList.take (rows.length*i.size)++news.toList++cur.toList.drop (rows.length*i.size+news.toList.length)).toArray)[q]? =
     if q<rows.length*i.size then cur[q]? else if q<rows.length*i.size+new.length*i.size then news[q-rows.length*i.size]? else cur[q]?:= by
    intro q
    simp only[Z0r,ZB]
    rw[ZP,hlt]
    split
    ·next h1=>rw[ZO h1];simp
    ·next h1 =>
     rw[ZP]
     simp only[Z0i,hn2]
     split
     ·next h2=>rw[if_pos (by omega)];simp
     ·next h2 =>
      rw[if_neg (by omega),ZV]
      simp
      congr 1;omega
   obtain⟨r1,r2⟩:=C26 (Φ:=g.Φ) (cur':=fun q=>((cur.toList.take (rows.length*i.size)++news.toList++cur.toList.drop (rows.length*i.size+news.toList.length)).toArray)[q]?) hlen hd4 (fun i' r j x hi' hj=>by
    obtain⟨u,h1,h2⟩:=a9 i' r j x hi' hj
    have hjk:j<i.size:= by have h1:=(Ze.1 hj).1;have h2:=hlen r (Zw hi');omega
    have:=O3 (k:=i.size) (Ze.1 hi').1
    refine⟨u,?_,h2⟩
    show _=_
    rw[get,if_pos (by omega)];exact h1) (fun i' r j x hi' hj=>by
    obtain⟨u,h1,h2⟩:=hn5 i' r j x hi' hj
    have hjk:j<i.size:= by have h1:=(Ze.1 hj).1;have h2:=hd4 r (Zw hi');omega
    have:=O3 (k:=i.size) (Ze.1 hi').1
    refine⟨u,?_,h2⟩
    show _=_
    rw[get,if_neg (by omega),if_pos (by omega),Z27];exact h1)
   obtain⟨g',q1,q2,q3,q4⟩:=hR.grewIn hb hL (new:=new) (cur':=(cur.toList.take (rows.length*i.size)++news.toList++cur.toList.drop (rows.length*i.size+news.toList.length)).toArray) a7 hpos (by simpa using hroom) a6 a8
    (by simp only[Z57,Zo,hlt,Z2i,Z0i,hn2];omega) r1 (fun off ho=>by rw[get,if_pos ho]) a10 a11 r2
   exact⟨_,_,g',hrun,q1,q2,by rw[q3];simp,Z,q4⟩
 ·have hge:=grownCap_ge w (rows.length+new.length) cp0 e
  have hcm:=grownCap_le_maxLen w (rows.length+new.length) cp0 e h63
  have hrun:=B1g (ty:=ty) ht hu hi hz bo cp0 new.length ad cp rows.length hd1 ho1 hroom (by omega) (growslice_fits (by omega) hbytes)
  obtain⟨r1,r2,r3⟩:=B17 (rows:=rows) (olds:=olds) (Φ:=g.Φ) (need:=rows.length+new.length) (by_:=0) (e:=e) hzs hlen hd4 ho2 hd2 Z hge ho3 hd5
  obtain⟨g',q1,q2,q3,q4⟩:=hR.drew.moved hb hL (cur:=olds++newd++Builtin.zeroCells z.cells (grownCap w (rows.length+new.length) cp0 e-(rows.length+new.length))) (e:=e) (rows':=rows++new) hpos
   (by simpa using hge) hcm r2 r1 r3 (by simp[slen];omega)
  exact⟨_,_,g',hrun,q1,(Ext.drew H g w).trans q2,by rw[q3];simp,Z,q4⟩
theorem D5u (hR:Rel MC P B0 H g w) {t u ty e e2:TypeId} {i:TypeInfo} {z:Value} (ht:P.underlying t=some (.slice e)) (hu:P.underlying u=some (.slice e2)) (hi:P.info? e=some i) (hz:i.zero=some z) {k:Nat} (his:i.size=k) (hpos:0<k) (hzs:z.cells.size=k)
  {b i0:Nat} {q:List Nat} {rows new:List (List AV)} {v0:Value} (hb:H[b]? = some (.stk k rows q)) (hno:(H.drop (b+1)).all (fun o=>!o.grew b)=true) (hlt0:b<i0) (hi0:i0<H.length) (hn0:g.L i0=.none) (hnew:0<new.length) (hL:g.L b=.arr k v0) (hbox:A0c MC P g w (.arr k false rows) (.arr k v0)) {ad:Option Addr} {cp:Nat} {news newd:Array Value}
  (hn1:(Builtin.firstCells k new.length (.slice ad new.length cp)).run P w=.ok news w) (hn2:news.size=new.length*k) (hn3:∀x∈news.toList,x.oneCell'=true)
  (hn5:∀(i:Nat) (r:List AV) (j:Nat) (x:AV),new[i]? = some r→r[j]? = some x→∃ u,news[i*k+j]? = some u∧Den g.Φ x u)
  (hd1:(Builtin.firstCells k new.length (.slice ad new.length cp)).run P w.drew=.ok newd w.drew) (hd2:newd.size=new.length*k) (hd4:∀r∈new,r.length=k)
  (hd5:∀(i:Nat) (r:List AV) (j:Nat) (x:AV),new[i]? = some r→r[j]? = some x→∃ u,newd[i*k+j]? = some u∧Den g.Φ x u)
  (h63:rows.length+new.length≤maxLen) (hbytes:(rows.length+new.length)*i.bytes≤140737488355328) :
  ∃ x w' g',(Builtin.append_ #[t,u] ty #[v0,.slice ad new.length cp]).run P w=.ok x w'∧Rel MC P B0 (H.set i0 (.stk k (rows++new) (b::q))) g' w'∧Ext H g w (H.set i0 (.stk k (rows++new) (b::q))) g' w'∧g'.L i0=.arr k x∧slen x=rows.length+new.length ∧
   x.oneCell'=true∧∀ i,i≠i0→g.L i=.none→g'.L i=.none:= by
 subst his
 have hsl:=Y1 hbox
 have hmx:maxLen≤9223372036854775807:= by simp[maxLen]
 obtain⟨_,hk0,hlen,h0⟩:=hbox
 have olds:∃(bo:Option Addr) (cp0:Nat) (olds:Array Value),v0=.slice bo rows.length cp0∧rows.length≤cp0∧(Builtin.firstCells i.size rows.length (.slice bo rows.length cp0)).run P w.drew=.ok olds w.drew∧olds.size=rows.length*i.size ∧
   (∀ (i':Nat) (r:List AV) (j:Nat) (x:AV),rows[i']? = some r→r[j]? = some x→∃ u,olds[i' * i.size+j]? = some u∧Den g.Φ x u):= by
  rcases h0 with⟨rfl,rfl⟩|⟨β,cp0,e',cur,rfl,a5,a6,a7,a8,a9,a10,a11⟩
  ·exact⟨none,0,#[],Z,Zn _,by simp[Builtin.firstCells],by simp,by simp⟩
  ·have hsz:rows.length*i.size≤cur.size:= by rw[a8];exact ZQ _ a5
   refine⟨_,cp0,((Z04 (rows.length*i.size)).map fun m=>(cur[m]?).getD undef).toArray,Z,a5,?_,by simp,fun i' r j x hi' hj=>?_⟩
   ·simp only[Builtin.firstCells]
    rw[run_loadCells (P:=P) w.drew ⟨β,0,none⟩ (rows.length*i.size) (fun m=>(cur[m]?).getD undef) (fun m hm=>by
     rw[A7o Z]
     have:w.drew.heap[β]? = some (.cells cur e' (0,0)):=a7
     have hml:m<cur.size:= by omega
     simp[World.cell?,this,hml])]
   ·obtain⟨u,hu,hd⟩:=a9 i' r j x hi' hj
    have hjk:j<i.size:= by have h1:=(Ze.1 hj).1;have h2:=hlen r (Zw hi');omega
    have:=O3 (k:=i.size) (Ze.1 hi').1
    have hlt:i' * i.size+j<rows.length*i.size:= by omega
    exact⟨u,by simp[hlt,hu],hd⟩
 obtain⟨bo,cp0,olds,rfl,hcp0,ho1,ho2,ho3⟩:=olds
 by_cases hroom:rows.length+new.length≤cp0
 ·rcases h0 with⟨rfl,hv⟩|⟨β,cp1,e',cur,hv,a5,a6,a7,a8,a9,a10,a11⟩
  ·cases hv
   simp at hroom;subst hroom;simp at hnew
  ·cases hv
   have hsz:rows.length*i.size+new.length*i.size≤cur.size:= by rw[a8,← Z21];exact ZQ _ hroom
   have hrun:=B6v (ty:=ty) ht hu hi e' β cp0 new.length ad cp rows.length hn1 hroom a7 (by omega) hn3
   have hlt:(cur.toList.take (rows.length*i.size)).length=rows.length*i.size:= by simp;omega
   have get:∀q,((cur.toList.take (rows.length*i.size)++news.toList++cur.toList.drop (rows.length*i.size+news.toList.length)).toArray)[q]? =
     if q<rows.length*i.size then cur[q]? else if q<rows.length*i.size+new.length*i.size then news[q-rows.length*i.size]? else cur[q]?:= by
    intro q
    simp only[Z0r,ZB]
    rw[ZP,hlt]
    split
    ·next h1=>rw[ZO h1];simp
    ·next h1 =>
     rw[ZP]
     simp only[Z0i,hn2]
     split
     ·next h2=>rw[if_pos (by omega)];simp
     ·next h2 =>
      rw[if_neg (by omega),ZV]
      simp
      congr 1;omega
   obtain⟨r1,r2⟩:=C26 (Φ:=g.Φ) (cur':=fun q=>((cur.toList.take (rows.length*i.size)++news.toList++cur.toList.drop (rows.length*i.size+news.toList.length)).toArray)[q]?) hlen hd4 (fun i' r j x hi' hj=>by
    obtain⟨u,h1,h2⟩:=a9 i' r j x hi' hj
    have hjk:j<i.size:= by have h1:=(Ze.1 hj).1;have h2:=hlen r (Zw hi');omega
    have:=O3 (k:=i.size) (Ze.1 hi').1
    refine⟨u,?_,h2⟩
    show _=_
    rw[get,if_pos (by omega)];exact h1) (fun i' r j x hi' hj=>by
    obtain⟨u,h1,h2⟩:=hn5 i' r j x hi' hj
    have hjk:j<i.size:= by have h1:=(Ze.1 hj).1;have h2:=hd4 r (Zw hi');omega
    have:=O3 (k:=i.size) (Ze.1 hi').1
    refine⟨u,?_,h2⟩
    show _=_
    rw[get,if_neg (by omega),if_pos (by omega),Z27];exact h1)
   obtain⟨q1,q2⟩:=hR.pushIn hb hno hlt0 hi0 hn0 hL (new:=new) (cur':=(cur.toList.take (rows.length*i.size)++news.toList++cur.toList.drop (rows.length*i.size+news.toList.length)).toArray) a7 hpos hnew (by simpa using hroom) a6 a8
    (by simp only[Z57,Zo,hlt,Z2i,Z0i,hn2];omega) r1 (fun off ho=>by rw[get,if_pos ho]) (a10 Z) r2
   exact⟨_,_,_,hrun,q1,q2,by simp[J0],by simp[slen],Z,fun j hj h=>by simpa [J0,hj] using h⟩
 ·have hge:=grownCap_ge w (rows.length+new.length) cp0 e
  have hcm:=grownCap_le_maxLen w (rows.length+new.length) cp0 e h63
  have hrun:=B1g (ty:=ty) ht hu hi hz bo cp0 new.length ad cp rows.length hd1 ho1 hroom (by omega) (growslice_fits (by omega) hbytes)
  obtain⟨r1,r2,r3⟩:=B17 (rows:=rows) (olds:=olds) (Φ:=g.Φ) (need:=rows.length+new.length) (by_:=0) (e:=e) hzs hlen hd4 ho2 hd2 Z hge ho3 hd5
  have q:=hR.drew.alloc hi0 hn0 (.cells (olds++newd++Builtin.zeroCells z.cells (grownCap w (rows.length+new.length) cp0 e-(rows.length+new.length))) e) (o':=.stk i.size (rows++new) (b::q))
   (gb':=.arr i.size (.slice (some ⟨w.heap.size,0,none⟩) (rows++new).length (grownCap w (rows.length+new.length) cp0 e))) Z
   ⟨Z,hpos,r1,.inr ⟨w.heap.size,_,e,_,Z,by simpa using hge,hcm,heap_alloc_new w.drew _,r2,r3,fun _ off=>hR.phi_none (Zn _),by simp⟩⟩
  exact⟨_,_,_,hrun,q.1,(Ext.drew H g w).trans q.2,by simp[J0],by simp[slen],Z,fun j hj h=>by simpa [J0,hj] using h⟩
theorem D7z {k by_:Nat} {d x:Opd} {r:Option Nat} {fz:Bool} (hm:D1 P o.op (.append k by_ d x r fz)=true) (hR:Rel MC P B0 H g w) (hS:D7 g s a.tmps) (hF:Free H g n0 (F6 (.append k by_ d x r fz)))
  (h:prim c n0 s H (.append k by_ d x r fz)=some (v,H')):Does MC P B0 a o ((F6 (.append k by_ d x r fz)).map (n0 + ·)) H g w v H':= by
 simp only[D1]at hm
 split at hm
 ·next args argTypes hop =>
  split at hm
  ·next d' x' t u hargs htys =>
   simp only[Zc]at hm
   obtain⟨⟨h1,h2⟩,h3⟩:=hm
   split at h1
   ·next e e2 hsl hsl2 =>
    simp only[Zc]at h1
    obtain⟨⟨⟨c1,c2⟩,c3⟩,c4⟩:=h1
    have ht:=S9 hsl
    have hu:=S9 hsl2
    have hk:P.cellsOf e=k:= by simpa using c1
    have hby:P.bytesOf e=by_:= by simpa using c2
    have hpos:0<k:= by simpa using c3
    split at c4
    ·next z hz0 =>
     have hzs:z.cells.size=k:= by simpa using c4
     cases hi:P.info? e with
     | none=>simp[hi]at hz0
     | some i =>
     have hz:i.zero=some z:= by simpa [hi] using hz0
     have his:i.size=k:= by rw[← hk];simp[Program.cellsOf,hi]
     have hib:i.bytes=by_:= by rw[← hby];simp[Program.bytesOf,hi]
     have hargs':args = #[d',x']:= by apply Z2v; simpa using hargs
     have htys':argTypes = #[t,u]:= by apply Z2v; simpa using htys
     subst hargs' htys'
     have hex:∀y w',(Builtin.append_ #[t,u] o.type #[a.eval d',a.eval x']).run P w=.ok y w'→(execOp a.eval o).run P w=.ok (.value y) w':= by
      intro y w' hy
      unfold execOp
      simp only[hop,resolve,invoke,builtin,Sem.run_bind,Sem.run_pure,Result.andThen_ok,List.map_toArray,Zt,List.map_nil,hy]
     simp only[prim]at h
     split at h
     ·next dv xv hd hx =>
      split at h
      ·next new k' hrow hko =>
       split at h
       ·next hcond =>
        simp only[Zc]at hcond
        have hkk:k=k':=Zk hcond.1
        subst hkk
        have hfr:=hcond.2
        obtain⟨ad,cp,hux,hread⟩:=B6o hR (L6 hS h3 hx) hrow hko hfr hpos
        obtain⟨news,hn1,hn2,hn3,hn4,hn5⟩:=hread new.length (Zn _)
        obtain⟨ad',cp',hux',hread'⟩:=B6o hR.drew (L6 hS h3 hx) hrow hko hfr hpos
        rw[hux]at hux'; cases hux'
        obtain⟨newd,hd1,hd2,hd3,hd4,hd5⟩:=hread' new.length (Zn _)
        have hn5':∀(i:Nat) (r:List AV) (j:Nat) (x:AV),new[i]? = some r→r[j]? = some x→∃ u,news[i*k+j]? = some u∧Den g.Φ x u :=
         fun i r j x h1 h2=>hn5 i r j x (Ze.1 h1).1 h1 h2
        have hd5':∀(i:Nat) (r:List AV) (j:Nat) (x:AV),new[i]? = some r→r[j]? = some x→∃ u,newd[i*k+j]? = some u∧Den g.Φ x u :=
         fun i r j x h1 h2=>hd5 i r j x (Ze.1 h1).1 h1 h2
        have hVd:=L6 hS h2 hd
        rw[hux]at hex hn1 hd1
        split at h
        ·
         next kd =>
         have hud:a.eval d'=.slice none 0 0:= by
          generalize a.eval d'=ud at hVd
          cases hVd with
          | den _ _ hd=>cases hd;rfl
         rw[hud]at hex
         split at h
         ·next hbnd =>
          by_cases hm0:new.length=0
          ·have hnew:new=[]:=Z15 hm0
           subst hnew
           have hrun:=hex _ _ (B9f (ty:=o.type) ht hu hi 0 0 ad cp 0 (by rw[his];exact hn1) (Zn _))
           split at h
           ·simp at h
           ·simp at h;obtain⟨rfl,rfl⟩:=h
            exact⟨_,_,g,.inl hrun,.den _ _ (.seq0 _ _ _),hR,Ext.refl _ _ _,Z,fun i _ h=>h⟩
           ·next r' =>
            simp at h;obtain⟨rfl,rfl⟩:=h
            obtain⟨hi0,hnn⟩:=hF r' (by simp[F6])
            have:=hR.bare hi0 hnn (o':=.arr k false []) (gb':=.arr k (.slice none 0 0)) Z ⟨Z,hpos,by simp,.inl ⟨Z,Z⟩⟩
            refine⟨_,_,_,.inl hrun,?_,this.1,this.2,by simp[hset],A7y (by simp[F6]) _ _⟩
            exact .asl _ _ k (.slice none 0 0) _ (by simp[J0]) (by simp[slen]) Z (fun _=>rfl)
           ·cases h
          ·have h63:new.length≤maxLen:= by have:=hbnd.2;simp only[maxLen];omega
           have hb:=hbnd.1
           have hge:=grownCap_ge w (0+new.length) 0 e
           have hcm:=grownCap_le_maxLen w (0+new.length) 0 e (by omega)
           have hrun:=hex _ _ (B1g (ty:=o.type) ht hu hi hz none 0 new.length ad cp 0 (news:=newd) (olds:=#[]) (by rw[his];exact hd1) (by simp[Builtin.firstCells]) (by omega) (by omega)
            (growslice_fits (by omega) (by rw[hib];have:(0+new.length)*by_=new.length*by_:= by rw[Z1d]
                                           omega)))
           simp only[Z1d]at hrun hge hcm
           obtain⟨r1,r2,r3⟩:=B17 (rows:=[]) (olds:=#[]) (Φ:=g.Φ) (need:=new.length) (by_:=by_) (e:=e) hzs (by simp) hd4 (by simp) hd2 (by simp) hge (by simp) hd5'
           generalize hcur:(#[]++newd++Builtin.zeroCells z.cells (grownCap w new.length 0 e-new.length))=cur at hrun r2 r3
           generalize grownCap w new.length 0 e=cap at hrun hge hcm r2
           simp only[List.nil_append]at r1 r3
           split at h
           ·next r' =>
            split at h
            ·simp at h;obtain⟨rfl,rfl⟩:=h
             obtain⟨hi0,hnn⟩:=hF r' (by simp[F6])
             have:=hR.drew.alloc hi0 hnn (.cells cur e) (o':=.stk k new []) (gb':=.arr k (.slice (some ⟨w.heap.size,0,none⟩) new.length cap)) Z
              ⟨Z,hpos,r1,.inr ⟨w.heap.size,cap,e,cur,Z,hge,hcm,heap_alloc_new w.drew _,r2,r3,fun _ off=>hR.phi_none (Zn _),by simp⟩⟩
             refine⟨_,_,_,.inl hrun,?_,this.1,(Ext.drew H g w).trans this.2,by simp[hset],A7y (by simp[F6]) _ _⟩
             exact .asl _ _ k (.slice (some ⟨w.heap.size,0,none⟩) new.length cap) _ (by simp[J0]) (by simp[slen]) Z (fun _=>rfl)
            ·cases h
           ·simp at h;obtain⟨rfl,rfl⟩:=h
            obtain⟨q1,q2⟩:=hR.drew.frozen cur e
            refine⟨_,_,_,.inl hrun,?_,q1,(Ext.drew H g w).trans q2,Z,fun i _ h=>h⟩
            refine .den _ _ ?_
            refine .seq _ _ _ _ (fun i j=>(cur[i*k+j]?).getD undef) Z hge r1 (fun i r j x hi hj=>?_) (fun i r j x hi hj=>?_)
            all_goals obtain⟨u,hu,hV⟩:=r3 i r j x hi hj
            ·simp[hu]
            ·simp only[hu,ZW]
             exact hV.mono q2.le.Φ
           ·next r' =>
            simp at h;obtain⟨rfl,rfl⟩:=h
            obtain⟨hi0,hnn⟩:=hF r' (by simp[F6])
            have:=hR.drew.alloc hi0 hnn (.cells cur e) (o':=.arr k false new) (gb':=.arr k (.slice (some ⟨w.heap.size,0,none⟩) new.length cap)) Z
             ⟨Z,hpos,r1,.inr ⟨w.heap.size,cap,e,cur,Z,hge,hcm,heap_alloc_new w.drew _,r2,r3,fun _ off=>hR.phi_none (Zn _),by simp⟩⟩
            refine⟨_,_,_,.inl hrun,?_,this.1,(Ext.drew H g w).trans this.2,by simp[hset],A7y (by simp[F6]) _ _⟩
            exact .asl _ _ k (.slice (some ⟨w.heap.size,0,none⟩) new.length cap) _ (by simp[J0]) (by simp[slen]) Z (fun _=>rfl)
           ·cases h
         ·cases h
        ·
         next b n =>
         split at h
         ·next kk p rows hc =>
          split at h
          ·next hbnd =>
           simp only[Zc,decide_eq_true_eq]at hbnd
           obtain⟨⟨⟨d1,d2⟩,d3⟩,d4⟩:=hbnd
           have d1':rows.length=n:=Zk d1
           have d2':kk=k:=Zk d2
           subst d1' d2'
           obtain⟨v0,hL,hbox⟩:=hR.arrW hc
           have hud:=A4e hVd hL (Y1 hbox)
           rw[hud]at hex
           obtain⟨x,w',g',q1,q2,q3,q4,q5,q6⟩:=D6l (ty:=o.type) hR ht hu hi hz his hpos hzs (A1a hc) hL hbox hn1 hn2 hn3 hn5' hd1 hd2 hd4 hd5' (by have:rows.length+new.length≤1099511627776:=d4;simp only[maxLen];omega) (by rw[hib];have:(rows.length+new.length)*by_≤1099511627776:=d3;exact Z01 this (by decide))
           have hrun:=hex _ _ q1
           have hbx:=q2.box b _ (by simp[(Ze.1 (A1a hc)).1]:(H.set b (.arr kk p (rows++new)))[b]? = some (.arr kk p (rows++new)))
           rw[q4]at hbx
           split at h
           ·cases h
           ·simp at h;obtain⟨rfl,rfl⟩:=h
            have done:∀(g2:Ghost) (H2:A2),Rel MC P B0 H2 g2 w'→Ext (H.set b (.arr kk p (rows++new))) g' w' H2 g2 w'→Den g2.Φ (.seq kk (rows++new)) x→g2.L=g'.L→(∃ ob,H2[b]? = some ob∧ob.isV=true)→H2.set b .dead=H.set b .dead →
              Does MC P B0 a o ((F6 (.append kk by_ d ‹Opd› none true)).map (n0 + ·)) H g w (.seq kk (rows++new)) (hset H b .dead):= by
             intro g2 H2 e1 e2 e3 e4 e5 e6
             obtain⟨f1,f2⟩:=e1.kill e5
             rw[e6]at f1 f2
             exact⟨x,w',g2,.inl hrun,.den _ _ e3,f1,(q3.trans e2).trans f2,by simp[hset],fun i _ h=>by rw[e4];exact q6 i h⟩
            have hlt:=(Ze.1 (A1a hc)).1
            cases p with
            | true=>exact done g' _ q2 (Ext.refl _ _ _) (B5a hbx) Z ⟨.arr kk true (rows++new),by simp[hlt],Z⟩ (by rw[Z3e])
            | false =>
             obtain⟨g2,e1,e2,e3,e4⟩:=q2.publish (by simp[hlt]:(H.set b (.arr kk false (rows++new)))[b]? = some (.arr kk false (rows++new))) q4
             exact done g2 _ e1 e2 e4 e3 ⟨.arr kk true (rows++new),by simp[hlt],Z⟩ (by rw[Z3e,Z3e])
           ·simp at h;obtain⟨rfl,rfl⟩:=h
            have hs1:=Y1 hbx
            refine⟨x,w',g',.inl hrun,?_,q2,q3,by simp[hset],fun i _ h=>q6 i h⟩
            exact .asl _ _ kk x _ q4 (by rw[hs1];simp) q5 (fun _=>rfl)
          ·cases h
         ·
          split at h
          ·next r' kk rows qq hc =>
           split at h
           ·next hbnd =>
            simp only[Zc,decide_eq_true_eq]at hbnd
            obtain⟨⟨⟨⟨⟨⟨⟨d1,d2⟩,d3⟩,d4⟩,d5⟩,d6⟩,d7⟩,d8⟩:=hbnd
            have d1':rows.length=n:=Zk d1
            have d2':kk=k:=Zk d2
            have d6':=Zp d6
            subst d1' d2'
            have hb:=D47 hc
            obtain⟨v0,hL,hbox⟩:=hR.stk (b:=b) (k:=kk) (rows:=rows) (q:=qq) (by unfold hstk hget;rw[hb])
            have hud:=A4e hVd hL (Y1 hbox)
            rw[hud]at hex
            obtain⟨hi0,hnn⟩:=hF r' (by simp[F6])
            obtain⟨y,w',g',q1,q2,q3,q4,q5,q6,q7⟩:=D5u (ty:=o.type) hR ht hu hi hz his hpos hzs hb d8 (i0:=n0+r') (by omega) hi0 hnn d5 hL hbox hn1 hn2 hn3 hn5' hd1 hd2 hd4 hd5' (by have:rows.length+new.length≤1099511627776:=d4;simp only[maxLen];omega) (by rw[hib];have:(rows.length+new.length)*by_≤1099511627776:=d3;exact Z01 this (by decide))
            have hrun:=hex _ _ q1
            simp at h;obtain⟨rfl,rfl⟩:=h
            refine⟨y,w',g',.inl hrun,?_,q2,q3,by simp[hset],fun j hj h=>q7 j (fun e=>hj (by rw[e];simp[F6])) h⟩
            exact .asl _ _ kk y _ q4 (by rw[q5];exact Zn _) q6 (fun _=>rfl)
           ·cases h
          ·cases h
        ·cases h
       ·cases h
      ·cases h
     ·cases h
    ·cases c4
   ·cases h1
  ·cases hm
 ·cases hm
end
end Am
end
