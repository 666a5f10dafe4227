/- Texts that the claim stands on, one behind another. -/
import Derived.Test.YtbheamjhjgoccaaDoorA4
import Derived.Test.YtbheamjhjgoccaaDoorRows
import Derived.ProofKit
import Derived.LaidMore
import Derived.OpenShut
import Derived.Stop.Joined
set_option linter.unusedVariables false
set_option linter.unusedSimpArgs false
set_option linter.unnecessarySimpa false
section
set_option maxRecDepth 100000
namespace Go.Proofs.YtbheamjhjgoccaaDoor
open Go.ChangeShapes Go.WideShapes Go.ChangeAt Go.WideMaps Go.WideElems Go.RowKit Am
def C7s:List (String × DataW Unit):=[("math/bits.deBruijn32tab",Rows.laid_math_bits_deBruijn32tab),("math/bits.deBruijn64tab",Rows.laid_math_bits_deBruijn64tab)]
theorem g32:Tryd.prog.globalNamed "math/bits.deBruijn32tab" = some 0:= by kernel_rfl
theorem g64:Tryd.prog.globalNamed "math/bits.deBruijn64tab" = some 1:= by kernel_rfl
theorem t32:(Tryd.prog.globals[0]?).map (·.type) = some 163:= by kernel_rfl
theorem t64:(Tryd.prog.globals[1]?).map (·.type) = some 164:= by kernel_rfl
theorem C8t {H:Type} {enc:TypeId × Value→H} {P:Program} {W:World} {base fuel n:Nat} {spare:Nat→Bool} {held:Bool} {t e:TypeId} {cs:List Value} {p:List MemPlace} {l:List Int}
  (ht:P.underlying t = some (.array n e)) (he:P.underlying e = some (.int .u8)) (hc:P.cellsOf e = 1) (hn:l.length = n)
  (h:DataW.trod enc P W base spare held fuel t cs = some (.agg (l.map fun n=>.lit (.int .u8 n)),p)) (j:Nat) (k:Int) (hj:l[j]? = some k):cs[j]? = some (.int .u8 k):= by
 obtain ⟨xs,m,rfl,hx,_,hxn,hel⟩:=DataW.trod_array ht h
 have hjl:j < n:= by rw [← hn]; exact (List.getElem?_eq_some_iff.1 hj).1
 have h1:=hel j hjl
 rw [hc,Nat.mul_one] at h1
 have hx1:l.map (fun n=>(DataW.lit (.int .u8 n):DataW H)) = xs.map (·.1):= by
  have:=congrArg Prod.fst hx
  simpa using this
 have h2:=congrArg (fun l=>l[j]?) hx1
 simp only [List.getElem?_map,hj,Option.map_some] at h2
 cases h3:xs[j]? with
 | none=>rw [h3] at h2; simp at h2
 | some x =>
  rw [h3] at h1 h2
  obtain ⟨k',e1,e2,_⟩:=DataW.trod_int he h1
  rw [e2] at h2
  simp only [Option.map_some,Option.some.injEq,DataW.lit.injEq,Lit.int.injEq,true_and] at h2
  subst h2
  have h4:=congrArg List.head? e1
  rw [List.head?_take,if_neg (by decide),List.head?_drop] at h4
  simpa using h4
theorem E27 {W:World} (h:laidMetH Tryd.prog C7s W):C5j fun β o=>W.cell? ⟨β,o,none⟩:= by
 rw [MakeChecks.laidMetH_plain _ _ _ (by kernel_rfl)] at h
 obtain ⟨ps,⟨g0,t0,cs0,f0,p0,q0,hg0,ht0,hv0,hd0,⟨g1,t1,cs1,f1,p1,q1,hg1,ht1,hv1,hd1,_,_⟩,_⟩,_,_⟩:=h
 obtain rfl:=Option.some.inj (g32.symm.trans hg0)
 obtain rfl:=Option.some.inj (g64.symm.trans hg1)
 obtain rfl:=Option.some.inj (t32.symm.trans ht0)
 obtain rfl:=Option.some.inj (t64.symm.trans ht1)
 have k32:=C8t (l:=gl0) Tryd.underlying163 (by kernel_rfl) (by kernel_rfl) (by decide) hd0
 have k64:=C8t (l:=gl1) Tryd.underlying164 (by kernel_rfl) (by kernel_rfl) (by decide) hd1
 intro i j x hx
 match i with
 | 0 =>
  have hx:(gl0.map fun n=>AV.lit (.int .u8 n))[j]? = some x:=hx
  rw [List.getElem?_map] at hx
  cases hk:gl0[j]? with
  | none=>rw [hk] at hx; cases hx
  | some k =>
   rw [hk] at hx
   obtain rfl:=Option.some.inj hx
   refine ⟨_,rfl,rfl,?_⟩
   have:=World.var?_cell hg0 hv0 j
   show W.cell? _ = _
   rw [this]
   have:=k32 j k hk
   simpa using this
 | 1 =>
  have hx:(gl1.map fun n=>AV.lit (.int .u8 n))[j]? = some x:=hx
  rw [List.getElem?_map] at hx
  cases hk:gl1[j]? with
  | none=>rw [hk] at hx; cases hx
  | some k =>
   rw [hk] at hx
   obtain rfl:=Option.some.inj hx
   refine ⟨_,rfl,rfl,?_⟩
   have:=World.var?_cell hg1 hv1 j
   show W.cell? _ = _
   rw [this]
   have:=k64 j k hk
   simpa using this
 | i + 2=>simp [B56] at hx
theorem D42 (os:Os) (args:Array Value):laidMetH Tryd.prog C7s ((World.doorLaid Tryd.prog 400 os).forCall (fun _ _=>0) ⟨#[],args,[]⟩).memory :=
 laidMetH_of_parts3 (fuel:=8) (laidMet_of_run' 8 (by kernel_rfl) (by kernel_rfl)) (by kernel_rfl) (by kernel_rfl)
end Go.Proofs.YtbheamjhjgoccaaDoor
end
