/- VanKnown returns true: the examples of the document hold of the program. No condition: the call has no arguments; for every world that the row admits. -/
import Derived.Test.YtjjmechghfjbmaaRows
import Derived.ProofKit
import Derived.Test.YtjjmechghfjbmaaVanKmatch
import Derived.Test.YtjjmechghfjbmaaVanKRun
import Derived.Test.YtjjmechghfjbmaaAmFinal
set_option linter.unusedVariables false
set_option linter.unusedSimpArgs false
set_option linter.unnecessarySimpa false
namespace Go.Proofs.Ytjjmechghfjbmaa
open Go.ChangeShapes Go.WideShapes Go.ChangeAt Go.RowKit Am

theorem own : ownKnob Try.prog.godebug = none := by kernel_rfl
theorem laidOut : laidOutB Try.prog = true := by kernel_rfl

theorem known_run : CallR Cd.tab ⟨0, []⟩ [] (.fn (.func 7) [] []) [] [.b true] [] := Rn.t1401

set_option maxRecDepth 100000 in
theorem vanKnown_lifted (os : Os) (started : os.Started) (H : Type) (enc : TypeId × Value → H) :
    ReturnsInHanded {} Try.checked os 7 .any (Rows.vanKnownSpec.pre6 enc Try.prog Try.f7 Rows.vanKnownRow.domain false) (Rows.vanKnownSpec.post enc Try.prog Try.f7 false true false false) := by
  refine returnsInHanded_of_change (C := Try.checked) own started (by kernel_rfl) Try.func7
    (ChangeSpec.witness6 (enc := enc) (C := Try.checked) false ⟨#[], #[], []⟩ 8 (by kernel_rfl) (by kernel_rfl) (by kernel_rfl) (by kernel_rfl)) ?_
  intro W base args ds gs before hval0 hW hcnd _
  have hW' := hW
  obtain ⟨p, q, hA0, hV, rfl, hfz, hnd⟩ := hW
  have hA : DataW.TrodAll enc Try.prog W 0 (fun _ => true) true [] args.toList ds p := hA0
  obtain ⟨rfl, rfl, rfl⟩ := trodAll_none hA
  obtain ⟨rfl, rfl⟩ := trodVars_none hV
  clear hA0 hval0
  refine (law_calls (Checked.mixed Try.checked) tabOk known_run W (vs := #[]) rfl (fun j x hj => by simp at hj)).mono fun e W' ⟨he, hB⟩ => ?_
  subst he
  refine ⟨_, rfl, _, _, _, [], [], [], hW', ?_, ?_, ?_, hB.frame _, fun h => by cases h⟩
  · exact trodAll_mk1 (shut_bool Try.underlying4 true)
  · exact trodAll_mk0
  · rfl

theorem vanKnown_holds : Rows.VanKnownSaid :=
  OpenClaim.holds_of_wide 7 Try.f7 rfl rfl rfl rfl rfl rfl rfl ⟨rfl, rfl, rfl, rfl, rfl⟩ rfl rfl rfl rfl rfl (by kernel_rfl) Try.func7 (by kernel_rfl)
    (of_decide_eq_true (by kernel_rfl)) (by unfold Func.isWrapper; first | (rw [if_pos (by decide +kernel)]; kernel_rfl) | (rw [if_neg (by decide +kernel)]; exact ⟨rfl, rfl⟩))
    (fun os started H enc _ => vanKnown_lifted os started H enc)
end Go.Proofs.Ytjjmechghfjbmaa
