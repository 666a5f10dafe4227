/- DressOrder returns true: in another order of figures Best costs as much. No condition: for every room, and every world that the row admits. -/
import Derived.Test.YtdkflofgolehkaaA7
import Derived.Test.YtdkflofgolehkaaRows
import Derived.ProofKit
import Derived.Carry
set_option linter.unusedVariables false
set_option linter.unusedSimpArgs false
set_option linter.unnecessarySimpa false
section
namespace Go.Proofs.Ytdkflofgolehkaa
open Go.ChangeShapes Go.WideShapes Go.ChangeAt Go.RowKit Am
theorem own:ownKnob Try.prog.godebug = none:= by kernel_rfl
theorem laidOut:laidOutB Try.prog = true:= by kernel_rfl
theorem dressOrder_run (x0:Ds.DrRoom) (q0:Ds.NB x0):G8 Cd.tab ⟨0,[]⟩ [] (.fn (.func 15) [] []) [.agg (Ds.A3 x0)] [.b true] [] :=
 (Ds.B00 (c:=⟨0,[]⟩) (H:=[]) rfl (Ds.B6b q0)).1
theorem sh_0:B9a Try.prog 8 25 = some (Ds.B41:List Sh):= by kernel_rfl
set_option maxRecDepth 100000 in
theorem dressOrder_lifted (os:Os) (started:os.Started) (H:Type) (enc:TypeId × Value→H) :
  ReturnsInHanded {} Try.checked os 15 .any (Rows.dressOrderSpec.pre6 enc Try.prog Try.f15 Rows.dressOrderRow.domain false) (Rows.dressOrderSpec.post enc Try.prog Try.f15 false true false false):= by
 refine returnsInHanded_of_change (C:=Try.checked) own started (by kernel_rfl) Try.func15
  (ChangeSpec.witness6 (enc:=enc) (C:=Try.checked) false ⟨#[],#[.agg #[.slice none 0 0,.slice none 0 0,.slice none 0 0,.slice none 0 0]],[]⟩ 8 (by kernel_rfl) (by kernel_rfl) (by kernel_rfl) (by kernel_rfl)) ?_
 intro W base args ds gs before hval0 hW hcnd _
 have hW':=hW
 obtain ⟨p0,q,hA0,hV,rfl,hfz,hnd⟩:=hW
 have hA:DataW.TrodAll enc Try.prog W 0 (fun _=>true) true [25] args.toList ds p0:=hA0
 obtain ⟨v0,d0,rfl,rfl,h0⟩:=trodAll_one hA
 obtain ⟨rfl,rfl⟩:=trodVars_none hV
 obtain ⟨fs0,hu0⟩:∃fs,Try.prog.underlying 25 = some (.struct fs):=⟨_,Try.underlying25⟩
 obtain ⟨c0,rfl,hc0⟩:=okWide_struct hu0 (hval0 0 25 v0 rfl rfl)
 obtain ⟨n0,k0⟩:=h0
 obtain ⟨⟨r0,s0,l0,g0⟩,_⟩:=A4d 8 25 _ _ _ _ sh_0 k0
 obtain ⟨x0,rfl,q0⟩:=Ds.B0n r0 s0
 have hlt:∀x ∈ p0,x.block < W.heap.size:=fun x hx=>by simpa using hW'.lt x (by simpa using hx)
 have hG:B67 fun β o=>W.cell? ⟨β,o,none⟩:=fun i j x h=>by simp [A6c] at h
 refine (A8b (Checked.mixed Try.checked) C92 (dressOrder_run x0 q0) W hG (vs:=#[.agg c0]) rfl (fun j x hj=>?_)).mono fun e W' ⟨he,hB⟩=>?_
 ·match j with
  | 0 =>
   obtain rfl:_ = x:=Option.some.inj hj
   have:=Ds.B18 (g:=⟨fun _=>.none,fun β o=>W.cell? ⟨β,o,none⟩,hG⟩) l0 g0
   exact this
  | j + 1=>simp at hj
 subst he
 refine ⟨_,rfl,_,_,_,[],p0,[],hW',?_,?_,?_,hB.frame _,fun h=>by cases h⟩
 ·exact trodAll_mk1 (shut_bool Try.underlying4 true)
 ·exact trodAll_mk1 (Below.trod laidOut (by kernel_rfl) (of_decide_eq_true (by kernel_rfl)) ⟨n0,k0⟩ hB fun x hx=>hlt x (by simp [hx]))
 ·rfl
theorem dressOrder_holds:Rows.DressOrderSaid :=
 OpenClaim.holds_of_wide 15 Try.f15 rfl rfl rfl rfl rfl rfl rfl ⟨rfl,rfl,rfl,rfl,rfl⟩ rfl rfl rfl rfl rfl (by kernel_rfl) Try.func15 (by kernel_rfl)
  (of_decide_eq_true (by kernel_rfl)) (by unfold Func.isWrapper; first | (rw [if_pos (by decide +kernel)]; kernel_rfl) | (rw [if_neg (by decide +kernel)]; exact ⟨rfl,rfl⟩))
  (fun os started H enc _=>dressOrder_lifted os started H enc)
end Go.Proofs.Ytdkflofgolehkaa
end
