/- DressOut returns true: nobody fewer can be left out than those of Out. No condition: for every room and bits, and every world that the row admits. -/
import Derived.Test.YtdkflofgolehkaaA7
import Derived.Test.YtdkflofgolehkaaRows
import Derived.ProofKit
import Derived.Carry
set_option linter.unusedVariables false
set_option linter.unusedSimpArgs false
set_option linter.unnecessarySimpa false
section
namespace Go.Proofs.Ytdkflofgolehkaa
open Go.ChangeShapes Go.WideShapes Go.ChangeAt Go.RowKit Am
theorem own:ownKnob Try.prog.godebug = none:= by kernel_rfl
theorem laidOut:laidOutB Try.prog = true:= by kernel_rfl
theorem dressOut_run (x0:Ds.DrRoom) (q0:Ds.NB x0) (x1:Int) (q1:0≤x1∧x1 < 256):G6 Cd.tab ⟨0,[]⟩ [] (.fn (.func 10) [] []) [.agg (Ds.A4 x0),.lit (.int .u8 x1)] [.b true] [] :=
 (Ds.B3h (c:=⟨0,[]⟩) (H:=[]) rfl (Ds.B90 q0 q1)).1
theorem sh_0:B6c Try.prog 8 25 = some (Ds.B40:List Sh):= by kernel_rfl
theorem sh_1:B6c Try.prog 8 5 = some ([.int .u8]:List Sh):= by kernel_rfl
set_option maxRecDepth 100000 in
theorem dressOut_lifted (os:Os) (started:os.Started) (H:Type) (enc:TypeId × Value→H) :
  ReturnsInHanded {} Try.checked os 10 .any (Rows.dressOutSpec.pre6 enc Try.prog Try.f10 Rows.dressOutRow.domain false) (Rows.dressOutSpec.post enc Try.prog Try.f10 false true false false):= by
 refine returnsInHanded_of_change (C:=Try.checked) own started (by kernel_rfl) Try.func10
  (ChangeSpec.witness6 (enc:=enc) (C:=Try.checked) false ⟨#[],#[.agg #[.slice none 0 0,.slice none 0 0,.slice none 0 0,.slice none 0 0],.int .u8 0],[]⟩ 8 (by kernel_rfl) (by kernel_rfl) (by kernel_rfl) (by kernel_rfl)) ?_
 intro W base args ds gs before hval0 hW hcnd _
 have hW':=hW
 obtain ⟨p,q,hA0,hV,rfl,hfz,hnd⟩:=hW
 have hA:DataW.TrodAll enc Try.prog W 0 (fun _=>true) true [25,5] args.toList ds p:=hA0
 obtain ⟨v0,v1,d0,d1,p0,p1,rfl,rfl,rfl,h0,h1⟩:=trodAll_two hA
 obtain ⟨rfl,rfl⟩:=trodVars_none hV
 obtain ⟨fs0,hu0⟩:∃fs,Try.prog.underlying 25 = some (.struct fs):=⟨_,Try.underlying25⟩
 obtain ⟨c0,rfl,hc0⟩:=okWide_struct hu0 (hval0 0 25 v0 rfl rfl)
 obtain ⟨y1,rfl⟩:=okWide_int Try.underlying5 (hval0 1 5 v1 rfl rfl)
 obtain ⟨n0,k0⟩:=h0
 obtain ⟨n1,k1⟩:=h1
 obtain ⟨⟨r0,s0,l0,g0⟩,_⟩:=A2s 8 25 _ _ _ _ sh_0 k0
 obtain ⟨⟨r1,s1,l1,g1⟩,_⟩:=A2s 8 5 _ _ _ _ sh_1 k1
 obtain ⟨x0,rfl,q0⟩:=Ds.B0m r0 s0
 obtain ⟨x1,rfl,q1⟩:=Ds.D7q r1 s1
 have hlt:∀x ∈ p0++p1,x.block < W.heap.size:=fun x hx=>by simpa using hW'.lt x (by simpa using hx)
 have hG:B66 fun β o=>W.cell? ⟨β,o,none⟩:=fun i j x h=>by simp [A5w] at h
 refine (A72 (Checked.mixed Try.checked) C92 (dressOut_run x0 q0 x1 q1) W hG (vs:=#[.agg c0,.int .u8 y1]) rfl (fun j x hj=>?_)).mono fun e W' ⟨he,hB⟩=>?_
 ·match j with
  | 0 =>
   obtain rfl:_ = x:=Option.some.inj hj
   have:=Ds.B2a (g:=⟨fun _=>.none,fun β o=>W.cell? ⟨β,o,none⟩,hG⟩) l0 g0
   exact this
  | 1 =>
   obtain rfl:_ = x:=Option.some.inj hj
   obtain ⟨v,hv,hd,_⟩:=g1 0 _ rfl
   obtain rfl:=Option.some.inj hv
   exact .den _ _ hd
  | j + 2=>simp at hj
 subst he
 refine ⟨_,rfl,_,_,_,[],p0++p1,[],hW',?_,?_,?_,hB.frame _,fun h=>by cases h⟩
 ·exact trodAll_mk1 (shut_bool Try.underlying4 true)
 ·exact trodAll_mk2 (Below.trod laidOut (by kernel_rfl) (of_decide_eq_true (by kernel_rfl)) ⟨n0,k0⟩ hB fun x hx=>hlt x (by simp [hx])) (Below.trod laidOut (by kernel_rfl) (of_decide_eq_true (by kernel_rfl)) ⟨n1,k1⟩ hB fun x hx=>hlt x (by simp [hx]))
 ·rfl
theorem dressOut_holds:Rows.DressOutSaid :=
 OpenClaim.holds_of_wide 10 Try.f10 rfl rfl rfl rfl rfl rfl rfl ⟨rfl,rfl,rfl,rfl,rfl⟩ rfl rfl rfl rfl rfl (by kernel_rfl) Try.func10 (by kernel_rfl)
  (of_decide_eq_true (by kernel_rfl)) (by unfold Func.isWrapper; first | (rw [if_pos (by decide +kernel)]; kernel_rfl) | (rw [if_neg (by decide +kernel)]; exact ⟨rfl,rfl⟩))
  (fun os started H enc _=>dressOut_lifted os started H enc)
end Go.Proofs.Ytdkflofgolehkaa
end
