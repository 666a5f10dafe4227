/- DressBests returns true: Best, Who and Price return what the reference says. No condition: for every room and person, and every world that the row admits. -/
import Derived.Test.YtdkflofgolehkaaA7
import Derived.Test.YtdkflofgolehkaaRows
import Derived.ProofKit
import Derived.Carry
set_option linter.unusedVariables false
set_option linter.unusedSimpArgs false
set_option linter.unnecessarySimpa false
section
namespace Go.Proofs.Ytdkflofgolehkaa
open Go.ChangeShapes Go.WideShapes Go.ChangeAt Go.RowKit Am
theorem own:ownKnob Try.prog.godebug = none:= by kernel_rfl
theorem laidOut:laidOutB Try.prog = true:= by kernel_rfl
theorem dressBests_run (x0:Ds.DrRoom) (q0:Ds.NB x0) (x1:Int) (q1:True):G3 Cd.tab ⟨0,[]⟩ [] (.fn (.func 5) [] []) [.agg (Ds.A4 x0),.i x1] [.b true] [] :=
 (Ds.A9k (c:=⟨0,[]⟩) (H:=[]) rfl (Ds.B4z q0 q1)).1
theorem sh_0:B80 Try.prog 8 25 = some (Ds.B7y:List Sh):= by kernel_rfl
theorem sh_1:B80 Try.prog 8 3 = some ([.int .i64]:List Sh):= by kernel_rfl
set_option maxRecDepth 100000 in
theorem dressBests_lifted (os:Os) (started:os.Started) (H:Type) (enc:TypeId × Value→H) :
  ReturnsInHanded {} Try.checked os 5 .any (Rows.dressBestsSpec.pre6 enc Try.prog Try.f5 Rows.dressBestsRow.domain false) (Rows.dressBestsSpec.post enc Try.prog Try.f5 false true false false):= by
 refine returnsInHanded_of_change (C:=Try.checked) own started (by kernel_rfl) Try.func5
  (ChangeSpec.witness6 (enc:=enc) (C:=Try.checked) false ⟨#[],#[.agg #[.slice none 0 0,.slice none 0 0,.slice none 0 0,.slice none 0 0],.int .i64 0],[]⟩ 8 (by kernel_rfl) (by kernel_rfl) (by kernel_rfl) (by kernel_rfl)) ?_
 intro W base args ds gs before hval0 hW hcnd _
 have hW':=hW
 obtain ⟨p,q,hA0,hV,rfl,hfz,hnd⟩:=hW
 have hA:DataW.TrodAll enc Try.prog W 0 (fun _=>true) true [25,3] args.toList ds p:=hA0
 obtain ⟨v0,v1,d0,d1,p0,p1,rfl,rfl,rfl,h0,h1⟩:=trodAll_two hA
 obtain ⟨rfl,rfl⟩:=trodVars_none hV
 obtain ⟨fs0,hu0⟩:∃fs,Try.prog.underlying 25 = some (.struct fs):=⟨_,Try.underlying25⟩
 obtain ⟨c0,rfl,hc0⟩:=okWide_struct hu0 (hval0 0 25 v0 rfl rfl)
 obtain ⟨y1,rfl⟩:=okWide_int Try.underlying3 (hval0 1 3 v1 rfl rfl)
 obtain ⟨n0,k0⟩:=h0
 obtain ⟨n1,k1⟩:=h1
 obtain ⟨⟨r0,s0,l0,g0⟩,_⟩:=A4i 8 25 _ _ _ _ sh_0 k0
 obtain ⟨⟨r1,s1,l1,g1⟩,_⟩:=A4i 8 3 _ _ _ _ sh_1 k1
 obtain ⟨x0,rfl,q0⟩:=Ds.B3h r0 s0
 obtain ⟨x1,rfl,q1⟩:=Ds.D4g r1 s1
 have hlt:∀x ∈ p0++p1,x.block < W.heap.size:=fun x hx=>by simpa using hW'.lt x (by simpa using hx)
 have hG:B8g fun β o=>W.cell? ⟨β,o,none⟩:=fun i j x h=>by simp [A6y] at h
 refine (B0b (Checked.mixed Try.checked) D21 (dressBests_run x0 q0 x1 q1) W hG (vs:=#[.agg c0,.int .i64 y1]) rfl (fun j x hj=>?_)).mono fun e W' ⟨he,hB⟩=>?_
 ·match j with
  | 0 =>
   obtain rfl:_ = x:=Option.some.inj hj
   have:=Ds.B45 (g:=⟨fun _=>.none,fun β o=>W.cell? ⟨β,o,none⟩,hG⟩) l0 g0
   exact this
  | 1 =>
   obtain rfl:_ = x:=Option.some.inj hj
   obtain ⟨v,hv,hd,_⟩:=g1 0 _ rfl
   obtain rfl:=Option.some.inj hv
   exact .den _ _ hd
  | j + 2=>simp at hj
 subst he
 refine ⟨_,rfl,_,_,_,[],p0++p1,[],hW',?_,?_,?_,hB.frame _,fun h=>by cases h⟩
 ·exact trodAll_mk1 (shut_bool Try.underlying4 true)
 ·exact trodAll_mk2 (Below.trod laidOut (by kernel_rfl) (of_decide_eq_true (by kernel_rfl)) ⟨n0,k0⟩ hB fun x hx=>hlt x (by simp [hx])) (Below.trod laidOut (by kernel_rfl) (of_decide_eq_true (by kernel_rfl)) ⟨n1,k1⟩ hB fun x hx=>hlt x (by simp [hx]))
 ·rfl
theorem dressBests_holds:Rows.DressBestsSaid :=
 OpenClaim.holds_of_wide 5 Try.f5 rfl rfl rfl rfl rfl rfl rfl ⟨rfl,rfl,rfl,rfl,rfl⟩ rfl rfl rfl rfl rfl (by kernel_rfl) Try.func5 (by kernel_rfl)
  (of_decide_eq_true (by kernel_rfl)) (by unfold Func.isWrapper; first | (rw [if_pos (by decide +kernel)]; kernel_rfl) | (rw [if_neg (by decide +kernel)]; exact ⟨rfl,rfl⟩))
  (fun os started H enc _=>dressBests_lifted os started H enc)
end Go.Proofs.Ytdkflofgolehkaa
end
