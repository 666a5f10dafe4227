/- PawnMore returns true: with more money, a cheaper gown or a further one no more figures go without. No condition: for every show and all that is more, and every world that the row admits. -/
import Derived.Test.YtjpjdglddmhplaaA7
import Derived.Test.YtjpjdglddmhplaaRows
import Derived.ProofKit
import Derived.Carry
set_option linter.unusedVariables false
set_option linter.unusedSimpArgs false
set_option linter.unnecessarySimpa false
open Option.some renaming inj→Z06
section
namespace Go.Proofs.Ytjpjdglddmhplaa
open Go.ChangeShapes Go.WideShapes Go.ChangeAt Go.RowKit Am
theorem own:ownKnob Try.prog.godebug=none:= by kernel_rfl
theorem laidOut:laidOutB Try.prog=true:= by kernel_rfl
theorem pawnMore_run (x0:Pw.PaShow) (q0:Pw.NB x0) (x1:Pw.law04_Richer) (q1:Pw.RB x1):I6 Cd.tab ⟨0,[]⟩ [] (.fn (.func 5) [] []) [.agg (Pw.B6 x0),.agg (Pw.G5 x1)] [.b true] [] :=
 (Pw.B1w (c:=⟨0,[]⟩) (H:=[]) Z (Pw.B9d q0 q1)).1
theorem sh_0:C6u Try.prog 8 26=some (Pw.C6v:List Sh):= by kernel_rfl
theorem sh_1:C6u Try.prog 8 54=some ([.int .u8,.int .u8,.int .u8,.int .u8,.int .i64,.int .i64,.str,.int .i64,.bool,.int .i64,.int .i64,.int .i64,.int .i64,.int .i64]:List Sh):= by kernel_rfl
set_option maxRecDepth 100000 in
theorem pawnMore_lifted (os:Os) (started:os.Started) (H:Type) (enc:TypeId×Value→H) :
  ReturnsInHanded {} Try.checked os 5 .any (Rows.pawnMoreSpec.pre6 enc Try.prog Try.f5 Rows.pawnMoreRow.domain false) (Rows.pawnMoreSpec.post enc Try.prog Try.f5 false true false false):= by
 refine returnsInHanded_of_change (C:=Try.checked) own started (by kernel_rfl) Try.func5
  (ChangeSpec.witness6 (enc:=enc) (C:=Try.checked) false ⟨#[],#[.agg #[.slice none 0 0,.slice none 0 0,.int .i64 0,.slice none 0 0],.agg #[.int .u8 0,.int .u8 0,.int .u8 0,.int .u8 0,.int .i64 0,.int .i64 0,.string (ByteArray.mk #[]),.int .i64 0,.bool false,.int .i64 0,.int .i64 0,.int .i64 0,.int .i64 0,.int .i64 0]],[]⟩ 8 (by kernel_rfl) (by kernel_rfl) (by kernel_rfl) (by kernel_rfl)) ?_
 intro W base args ds gs before hval0 hW hcnd _
 have hW':=hW
 obtain⟨p,q,hA0,hV,rfl,hfz,hnd⟩:=hW
 have hA:DataW.TrodAll enc Try.prog W 0 (fun _=>true) true [26,54] args.toList ds p:=hA0
 obtain⟨v0,v1,d0,d1,p0,p1,rfl,rfl,rfl,h0,h1⟩:=trodAll_two hA
 obtain⟨rfl,rfl⟩:=trodVars_none hV
 obtain⟨fs0,hu0⟩:∃fs,Try.prog.underlying 26=some (.struct fs):=⟨_,Try.underlying26⟩
 obtain⟨c0,rfl,hc0⟩:=okWide_struct hu0 (hval0 0 26 v0 Z Z)
 obtain⟨fs1,hu1⟩:∃fs,Try.prog.underlying 54=some (.struct fs):=⟨_,Try.underlying54⟩
 obtain⟨c1,rfl,hc1⟩:=okWide_struct hu1 (hval0 1 54 v1 Z Z)
 obtain⟨n0,k0⟩:=h0
 obtain⟨n1,k1⟩:=h1
 obtain⟨⟨r0,s0,l0,g0⟩,_⟩:=B08 8 26 _ _ _ _ sh_0 k0
 obtain⟨⟨r1,s1,l1,g1⟩,_⟩:=B08 8 54 _ _ _ _ sh_1 k1
 obtain⟨x0,rfl,q0⟩:=Pw.C9s r0 s0
 obtain⟨x1,rfl,q1⟩:=Pw.C9t r1 s1
 have hlt:∀x∈p0++p1,x.block<W.heap.size:=fun x hx=>by simpa using hW'.lt x (by simpa using hx)
 have hG:C2t fun β o=>W.cell? ⟨β,o,none⟩:=fun i j x h=>by simp[B1m]at h
 refine(C57 (Checked.mixed Try.checked) D97 (pawnMore_run x0 q0 x1 q1) W hG (vs:=#[.agg c0,.agg c1]) Z (fun j x hj=>?_)).mono fun e W' ⟨he,hB⟩=>?_
 ·match j with
  | 0 =>
   obtain rfl:_=x:=Z06 hj
   have:=Pw.C65 (g:=⟨fun _=>.none,fun β o=>W.cell? ⟨β,o,none⟩,hG⟩) l0 g0
   exact this
  | 1 =>
   obtain rfl:_=x:=Z06 hj
   have:=Pw.C65 (g:=⟨fun _=>.none,fun β o=>W.cell? ⟨β,o,none⟩,hG⟩) l1 g1
   exact this
  | j+2=>simp at hj
 subst he
 refine⟨_,Z,_,_,_,[],p0++p1,[],hW',?_,?_,?_,hB.frame _,fun h=>by cases h⟩
 ·exact trodAll_mk1 (shut_bool Try.underlying4 true)
 ·exact trodAll_mk2 (Below.trod laidOut (by kernel_rfl) (of_decide_eq_true (by kernel_rfl)) ⟨n0,k0⟩ hB fun x hx=>hlt x (by simp[hx])) (Below.trod laidOut (by kernel_rfl) (of_decide_eq_true (by kernel_rfl)) ⟨n1,k1⟩ hB fun x hx=>hlt x (by simp[hx]))
 ·rfl
theorem pawnMore_holds:Rows.PawnMoreSaid :=
 OpenClaim.holds_of_wide 5 Try.f5 Z Z Z Z Z Z Z ⟨Z,Z,Z,Z,Z⟩ Z Z Z Z Z (by kernel_rfl) Try.func5 (by kernel_rfl)
  (of_decide_eq_true (by kernel_rfl)) (by unfold Func.isWrapper;first|(rw[if_pos (by decide +kernel)];kernel_rfl)|(rw[if_neg (by decide +kernel)];exact⟨Z,Z⟩))
  (fun os started H enc _=>pawnMore_lifted os started H enc)
end Go.Proofs.Ytjpjdglddmhplaa
end
