/- PawnNeed returns true: with as much more money as Need says no figure goes without a gown, with a penny less some does. No condition: for every show, and every world that the row admits. -/
import Derived.Test.YtjpjdglddmhplaaGreatA7
import Derived.Test.YtjpjdglddmhplaaGreatRows
import Derived.ProofKit
import Derived.Carry
set_option linter.unusedVariables false
set_option linter.unusedSimpArgs false
set_option linter.unnecessarySimpa false
open Option.some renaming inj→Z0b
section
namespace Go.Proofs.YtjpjdglddmhplaaGreat
open Go.ChangeShapes Go.WideShapes Go.ChangeAt Go.RowKit Am
theorem own:ownKnob Tryz.prog.godebug=none:= by kernel_rfl
theorem laidOut:laidOutB Tryz.prog=true:= by kernel_rfl
theorem pawnNeed_run (x0:Pw.PaShow) (q0:Pw.NB x0):L5 Cd.tab ⟨0,[]⟩ [] (.fn (.func 8) [] []) [.agg (Pw.A9 x0)] [.b true] [] :=
 (Pw.B6b (c:=⟨0,[]⟩) (H:=[]) Z (Pw.C38 q0)).1
theorem sh_0:D53 Tryz.prog 8 26=some (Pw.D2f:List Sh):= by kernel_rfl
set_option maxRecDepth 100000 in
theorem pawnNeed_lifted (os:Os) (started:os.Started) (H:Type) (enc:TypeId×Value→H) :
  ReturnsInHanded {} Tryz.checked os 8 .any (Rows.pawnNeedSpec.pre6 enc Tryz.prog Tryz.f8 Rows.pawnNeedRow.domain false) (Rows.pawnNeedSpec.post enc Tryz.prog Tryz.f8 false true false false):= by
 refine returnsInHanded_of_change (C:=Tryz.checked) own started (by kernel_rfl) Tryz.func8
  (ChangeSpec.witness6 (enc:=enc) (C:=Tryz.checked) false ⟨#[],#[.agg #[.slice none 0 0,.slice none 0 0,.int .i64 0,.slice none 0 0]],[]⟩ 8 (by kernel_rfl) (by kernel_rfl) (by kernel_rfl) (by kernel_rfl)) ?_
 intro W base args ds gs before hval0 hW hcnd _
 have hW':=hW
 obtain⟨p0,q,hA0,hV,rfl,hfz,hnd⟩:=hW
 have hA:DataW.TrodAll enc Tryz.prog W 0 (fun _=>true) true [26] args.toList ds p0:=hA0
 obtain⟨v0,d0,rfl,rfl,h0⟩:=trodAll_one hA
 obtain⟨rfl,rfl⟩:=trodVars_none hV
 obtain⟨fs0,hu0⟩:∃fs,Tryz.prog.underlying 26=some (.struct fs):=⟨_,Tryz.underlying26⟩
 obtain⟨c0,rfl,hc0⟩:=okWide_struct hu0 (hval0 0 26 v0 Z Z)
 obtain⟨n0,k0⟩:=h0
 obtain⟨⟨r0,s0,l0,g0⟩,_⟩:=C06 8 26 _ _ _ _ sh_0 k0
 obtain⟨x0,rfl,q0⟩:=Pw.D5n r0 s0
 have hlt:∀x∈p0,x.block<W.heap.size:=fun x hx=>by simpa using hW'.lt x (by simpa using hx)
 have hG:C7v fun β o=>W.cell? ⟨β,o,none⟩:=fun i j x h=>by simp[B50]at h
 refine(D1r (Checked.mixed Tryz.checked) E6b (pawnNeed_run x0 q0) W hG (vs:=#[.agg c0]) Z (fun j x hj=>?_)).mono fun e W' ⟨he,hB⟩=>?_
 ·match j with
  | 0 =>
   obtain rfl:_=x:=Z0b hj
   have:=Pw.D9z (g:=⟨fun _=>.none,fun β o=>W.cell? ⟨β,o,none⟩,hG⟩) l0 g0
   exact this
  | j+1=>simp at hj
 subst he
 refine⟨_,Z,_,_,_,[],p0,[],hW',?_,?_,?_,hB.frame _,fun h=>by cases h⟩
 ·exact trodAll_mk1 (shut_bool Tryz.underlying4 true)
 ·exact trodAll_mk1 (Below.trod laidOut (by kernel_rfl) (of_decide_eq_true (by kernel_rfl)) ⟨n0,k0⟩ hB fun x hx=>hlt x (by simp[hx]))
 ·rfl
theorem pawnNeed_holds:Rows.PawnNeedSaid :=
 OpenClaim.holds_of_wide 8 Tryz.f8 Z Z Z Z Z Z Z ⟨Z,Z,Z,Z,Z⟩ Z Z Z Z Z (by kernel_rfl) Tryz.func8 (by kernel_rfl)
  (of_decide_eq_true (by kernel_rfl)) (by unfold Func.isWrapper;first|(rw[if_pos (by decide +kernel)];kernel_rfl)|(rw[if_neg (by decide +kernel)];exact⟨Z,Z⟩))
  (fun os started H enc _=>pawnNeed_lifted os started H enc)
end Go.Proofs.YtjpjdglddmhplaaGreat
end
