/- PawnKnown returns true: the examples of the document hold. No condition: the call has no arguments; for every world that the row admits. -/
import Derived.Test.YtjpjdglddmhplaaA6
import Derived.Test.YtjpjdglddmhplaaRows
import Derived.ProofKit
import Derived.Carry
set_option linter.unusedVariables false
set_option linter.unusedSimpArgs false
set_option linter.unnecessarySimpa false
section
namespace Go.Proofs.Ytjpjdglddmhplaa
open Go.ChangeShapes Go.WideShapes Go.ChangeAt Go.RowKit Am
theorem own:ownKnob Try.prog.godebug = none:= by kernel_rfl
theorem laidOut:laidOutB Try.prog = true:= by kernel_rfl
theorem pawnKnown_run :H6 Cd.tab ⟨0,[]⟩ [] (.fn (.func 3) [] []) [] [.b true] [] :=
 (Pw.A67 (c:=⟨0,[]⟩) (H:=[]) rfl Pw.B29).1
set_option maxRecDepth 100000 in
theorem pawnKnown_lifted (os:Os) (started:os.Started) (H:Type) (enc:TypeId × Value→H) :
  ReturnsInHanded {} Try.checked os 3 .any (Rows.pawnKnownSpec.pre6 enc Try.prog Try.f3 Rows.pawnKnownRow.domain false) (Rows.pawnKnownSpec.post enc Try.prog Try.f3 false true false false):= by
 refine returnsInHanded_of_change (C:=Try.checked) own started (by kernel_rfl) Try.func3
  (ChangeSpec.witness6 (enc:=enc) (C:=Try.checked) false ⟨#[],#[],[]⟩ 8 (by kernel_rfl) (by kernel_rfl) (by kernel_rfl) (by kernel_rfl)) ?_
 intro W base args ds gs before hval0 hW hcnd _
 have hW':=hW
 obtain ⟨p,q,hA0,hV,rfl,hfz,hnd⟩:=hW
 have hA:DataW.TrodAll enc Try.prog W 0 (fun _=>true) true [] args.toList ds p:=hA0
 obtain ⟨rfl,rfl,rfl⟩:=trodAll_none hA
 obtain ⟨rfl,rfl⟩:=trodVars_none hV
 have hG:B6s fun β o=>W.cell? ⟨β,o,none⟩:=fun i j x h=>by simp [A72] at h
 refine (C16 (Checked.mixed Try.checked) D0t pawnKnown_run W hG (vs:=#[]) rfl (fun j x hj=>by simp at hj)).mono fun e W' ⟨he,hB⟩=>?_
 subst he
 refine ⟨_,rfl,_,_,_,[],[],[],hW',?_,?_,?_,hB.frame _,fun h=>by cases h⟩
 ·exact trodAll_mk1 (shut_bool Try.underlying4 true)
 ·exact trodAll_mk0
 ·rfl
theorem pawnKnown_holds:Rows.PawnKnownSaid :=
 OpenClaim.holds_of_wide 3 Try.f3 rfl rfl rfl rfl rfl rfl rfl ⟨rfl,rfl,rfl,rfl,rfl⟩ rfl rfl rfl rfl rfl (by kernel_rfl) Try.func3 (by kernel_rfl)
  (of_decide_eq_true (by kernel_rfl)) (by unfold Func.isWrapper; first | (rw [if_pos (by decide +kernel)]; kernel_rfl) | (rw [if_neg (by decide +kernel)]; exact ⟨rfl,rfl⟩))
  (fun os started H enc _=>pawnKnown_lifted os started H enc)
end Go.Proofs.Ytjpjdglddmhplaa
end
