/- PawnOrder returns true: the other way round as many figures go without a gown, and it costs as much. No condition: for every show, and every world that the row admits. -/
import Derived.Test.YtjpjdglddmhplaaA7
import Derived.Test.YtjpjdglddmhplaaRows
import Derived.ProofKit
import Derived.Carry
set_option linter.unusedVariables false
set_option linter.unusedSimpArgs false
set_option linter.unnecessarySimpa false
open Option.some renaming inj→Z0d
section
namespace Go.Proofs.Ytjpjdglddmhplaa
open Go.ChangeShapes Go.WideShapes Go.ChangeAt Go.RowKit Am
theorem own:ownKnob Try.prog.godebug=none:= by kernel_rfl
theorem laidOut:laidOutB Try.prog=true:= by kernel_rfl
theorem pawnOrder_run (x0:Pw.PaShow) (q0:Pw.NB x0):I7 Cd.tab ⟨0,[]⟩ [] (.fn (.func 6) [] []) [.agg (Pw.B3 x0)] [.b true] [] :=
 (Pw.B0l (c:=⟨0,[]⟩) (H:=[]) Z (Pw.B70 q0)).1
theorem sh_0:D0e Try.prog 8 26=some (Pw.C61:List Sh):= by kernel_rfl
set_option maxRecDepth 100000 in
theorem pawnOrder_lifted (os:Os) (started:os.Started) (H:Type) (enc:TypeId×Value→H) :
  ReturnsInHanded {} Try.checked os 6 .any (Rows.pawnOrderSpec.pre6 enc Try.prog Try.f6 Rows.pawnOrderRow.domain false) (Rows.pawnOrderSpec.post enc Try.prog Try.f6 false true false false):= by
 refine returnsInHanded_of_change (C:=Try.checked) own started (by kernel_rfl) Try.func6
  (ChangeSpec.witness6 (enc:=enc) (C:=Try.checked) false ⟨#[],#[.agg #[.slice none 0 0,.slice none 0 0,.int .i64 0,.slice none 0 0]],[]⟩ 8 (by kernel_rfl) (by kernel_rfl) (by kernel_rfl) (by kernel_rfl)) ?_
 intro W base args ds gs before hval0 hW hcnd _
 have hW':=hW
 obtain⟨p0,q,hA0,hV,rfl,hfz,hnd⟩:=hW
 have hA:DataW.TrodAll enc Try.prog W 0 (fun _=>true) true [26] args.toList ds p0:=hA0
 obtain⟨v0,d0,rfl,rfl,h0⟩:=trodAll_one hA
 obtain⟨rfl,rfl⟩:=trodVars_none hV
 obtain⟨fs0,hu0⟩:∃fs,Try.prog.underlying 26=some (.struct fs):=⟨_,Try.underlying26⟩
 obtain⟨c0,rfl,hc0⟩:=okWide_struct hu0 (hval0 0 26 v0 Z Z)
 obtain⟨n0,k0⟩:=h0
 obtain⟨⟨r0,s0,l0,g0⟩,_⟩:=B6d 8 26 _ _ _ _ sh_0 k0
 obtain⟨x0,rfl,q0⟩:=Pw.C9z r0 s0
 have hlt:∀x∈p0,x.block<W.heap.size:=fun x hx=>by simpa using hW'.lt x (by simpa using hx)
 have hG:C2r fun β o=>W.cell? ⟨β,o,none⟩:=fun i j x h=>by simp[B1m]at h
 refine(C6d (Checked.mixed Try.checked) E0d (pawnOrder_run x0 q0) W hG (vs:=#[.agg c0]) Z (fun j x hj=>?_)).mono fun e W' ⟨he,hB⟩=>?_
 ·match j with
  | 0 =>
   obtain rfl:_=x:=Z0d hj
   have:=Pw.D37 (g:=⟨fun _=>.none,fun β o=>W.cell? ⟨β,o,none⟩,hG⟩) l0 g0
   exact this
  | j+1=>simp at hj
 subst he
 refine⟨_,Z,_,_,_,[],p0,[],hW',?_,?_,?_,hB.frame _,fun h=>by cases h⟩
 ·exact trodAll_mk1 (shut_bool Try.underlying4 true)
 ·exact trodAll_mk1 (Below.trod laidOut (by kernel_rfl) (of_decide_eq_true (by kernel_rfl)) ⟨n0,k0⟩ hB fun x hx=>hlt x (by simp[hx]))
 ·rfl
theorem pawnOrder_holds:Rows.PawnOrderSaid :=
 OpenClaim.holds_of_wide 6 Try.f6 Z Z Z Z Z Z Z ⟨Z,Z,Z,Z,Z⟩ Z Z Z Z Z (by kernel_rfl) Try.func6 (by kernel_rfl)
  (of_decide_eq_true (by kernel_rfl)) (by unfold Func.isWrapper;first|(rw[if_pos (by decide +kernel)];kernel_rfl)|(rw[if_neg (by decide +kernel)];exact⟨Z,Z⟩))
  (fun os started H enc _=>pawnOrder_lifted os started H enc)
end Go.Proofs.Ytjpjdglddmhplaa
end
