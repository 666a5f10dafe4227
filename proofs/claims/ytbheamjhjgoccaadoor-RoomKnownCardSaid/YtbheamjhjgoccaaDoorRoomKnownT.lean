/- RoomKnown: the examples of the document hold. -/
import Derived.Test.YtbheamjhjgoccaaDoorA6
import Derived.Test.YtbheamjhjgoccaaDoorRows
import Derived.ProofKit
import Derived.Carry
import Derived.LaidMore
import Derived.OpenShut
import Derived.Stop.Joined
import Derived.SevenTiedAt
import Derived.Test.YtbheamjhjgoccaaDoorCards
import Derived.Test.YtbheamjhjgoccaaDoorTie
set_option linter.unusedVariables false
set_option linter.unusedSimpArgs false
set_option linter.unnecessarySimpa false
section
namespace Go.Proofs.YtbheamjhjgoccaaDoor
open Go.ChangeShapes Go.WideShapes Go.ChangeAt Go.RowKit Am
theorem own:ownKnob Tryd.prog.godebug = none:= by kernel_rfl
theorem laidOut:laidOutB Tryd.prog = true:= by kernel_rfl
theorem roomKnown_run :O3 Cd.tab ⟨0,[]⟩ [] (.fn (.func 7) [] []) [] [.b true] [] :=
 (Rm.A67 (c:=⟨0,[]⟩) (H:=[]) rfl Rm.B14).1
set_option maxRecDepth 100000 in
theorem roomKnown_lifted (os:Os) (started:os.Started) (H:Type) (enc:TypeId × Value→H) :
  ReturnsInHanded {} Tryd.checked os 7 .any (fun w args=>(Rows.roomKnownSpec.pre enc Tryd.prog Tryd.f7 [] false w args∧laidMetH Tryd.prog B5n w)∧sizedMet enc Tryd.prog Tryd.f7 (OpenSpec.ofChange Rows.roomKnownSpec) false w args) (Rows.roomKnownSpec.post enc Tryd.prog Tryd.f7 false true false false):= by
 refine returnsInHanded_of_change_and (C:=Tryd.checked) (X:=fun w _=>laidMetH Tryd.prog B5n w) (fun _ _ _ hh h=>h.of_heap hh) own started (by kernel_rfl) Tryd.func7
  (ChangeSpec.witness_shaped (enc:=enc) (C:=Tryd.checked) (os:=os) (X:=fun w _=>laidMetH Tryd.prog B5n w) false (World.doorLaid Tryd.prog 400 os) #[] 8 rfl (World.shaped_of_RefB (by kernel_rfl) (by kernel_rfl)) (by kernel_rfl) (by kernel_rfl) (by kernel_rfl) (B95 os _)) ?_
 intro W base args ds gs before hval0 hW _ _ hL _
 have hW':=hW
 obtain ⟨p,q,hA0,hV,rfl,hfz,hnd⟩:=hW
 have hA:DataW.TrodAll enc Tryd.prog W 0 (fun _=>true) true [] args.toList ds p:=hA0
 obtain ⟨rfl,rfl,rfl⟩:=trodAll_none hA
 obtain ⟨rfl,rfl⟩:=trodVars_none hV
 have hG:B34 fun β o=>W.cell? ⟨β,o,none⟩:=C62 hL
 refine (B85 (Checked.mixed Tryd.checked) C53 roomKnown_run W hG (vs:=#[]) rfl (fun j x hj=>by simp at hj)).mono fun e W' ⟨he,hB⟩=>?_
 subst he
 refine ⟨_,rfl,_,_,_,[],[],[],hW',?_,?_,?_,hB.frame _,fun h=>by cases h⟩
 ·exact trodAll_mk1 (shut_bool Tryd.underlying4 true)
 ·exact trodAll_mk0
 ·rfl
theorem roomKnown_holds:Rows.RoomKnownSaid :=
 OpenClaim.holds_of_wide 7 Tryd.f7 rfl rfl rfl rfl rfl rfl rfl ⟨rfl,rfl,rfl,rfl,rfl⟩ rfl rfl rfl rfl rfl (by kernel_rfl) Tryd.func7 (by kernel_rfl)
  (of_decide_eq_true (by kernel_rfl)) (by unfold Func.isWrapper; first | (rw [if_pos (by decide +kernel)]; kernel_rfl) | (rw [if_neg (by decide +kernel)]; exact ⟨rfl,rfl⟩))
  (fun os started H enc _=>roomKnown_lifted os started H enc)
theorem roomKnownCard_holds:Rows.RoomKnownCardSaid :=
 Claim7.holds_tied_plain_at .later [] [.data,.data] true (true,"75c129de1f98bec74c65c363b57acbb209f77f3a824996ec32aa3a29a438dc7c") false
  roomKnown_holds (fun _ h=>by cases h) (by kernel_rfl) (fun _ h=>by cases h) roomKnown_row_tie rfl ⟨rfl,rfl⟩ (by kernel_rfl) rfl
  (fun f fn hf hfn=>by
   obtain rfl:f = 7:=Option.some.inj ((show Tryd.prog.funcNamed "ceroplast/ceroplastlaw05.RoomKnown" = some 7 by kernel_rfl).symm.trans hf) |>.symm
   obtain rfl:fn = Tryd.f7:=(Option.some.inj (Tryd.func7.symm.trans hfn)).symm
   exact ⟨by kernel_rfl,fun j t ht=>by
    rw [Tryd.params7] at ht
    simp at ht⟩)
  (by kernel_rfl)
end Go.Proofs.YtbheamjhjgoccaaDoor
end
