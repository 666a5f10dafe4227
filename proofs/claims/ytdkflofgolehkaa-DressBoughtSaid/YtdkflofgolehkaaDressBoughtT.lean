/- DressBought returns true: what Buy says is enough, and nothing less. No condition: for every room and turns, and every world that the row admits. -/
import Derived.Test.YtdkflofgolehkaaA7
import Derived.Test.YtdkflofgolehkaaRows
import Derived.ProofKit
import Derived.Carry
set_option linter.unusedVariables false
set_option linter.unusedSimpArgs false
set_option linter.unnecessarySimpa false
section
namespace Go.Proofs.Ytdkflofgolehkaa
open Go.ChangeShapes Go.WideShapes Go.ChangeAt Go.RowKit Am
theorem own:ownKnob Try.prog.godebug = none:= by kernel_rfl
theorem laidOut:laidOutB Try.prog = true:= by kernel_rfl
theorem dressBought_run (x0:Ds.DrRoom) (q0:Ds.NB x0) (x1:List Int) (q1:Ds.N8 x1):G6 Cd.tab ⟨0,[]⟩ [] (.fn (.func 11) [] []) [.agg (Ds.A4 x0),.seq 1 (x1.map B2e)] [.b true] [] :=
 (Ds.A9k (c:=⟨0,[]⟩) (H:=[]) rfl (Ds.B35 q0 q1)).1
theorem sh_0:B59 Try.prog 8 25 = some (Ds.B4y:List Sh):= by kernel_rfl
theorem sh_1:B59 Try.prog 8 48 = some ([.seq 1 [.int .u8]]:List Sh):= by kernel_rfl
set_option maxRecDepth 100000 in
theorem dressBought_lifted (os:Os) (started:os.Started) (H:Type) (enc:TypeId × Value→H) :
  ReturnsInHanded {} Try.checked os 11 .any (Rows.dressBoughtSpec.pre6 enc Try.prog Try.f11 Rows.dressBoughtRow.domain false) (Rows.dressBoughtSpec.post enc Try.prog Try.f11 false true false false):= by
 refine returnsInHanded_of_change (C:=Try.checked) own started (by kernel_rfl) Try.func11
  (ChangeSpec.witness6 (enc:=enc) (C:=Try.checked) false ⟨#[],#[.agg #[.slice none 0 0,.slice none 0 0,.slice none 0 0,.slice none 0 0],.slice none 0 0],[]⟩ 8 (by kernel_rfl) (by kernel_rfl) (by kernel_rfl) (by kernel_rfl)) ?_
 intro W base args ds gs before hval0 hW hcnd _
 have hW':=hW
 obtain ⟨p,q,hA0,hV,rfl,hfz,hnd⟩:=hW
 have hA:DataW.TrodAll enc Try.prog W 0 (fun _=>true) true [25,48] args.toList ds p:=hA0
 obtain ⟨v0,v1,d0,d1,p0,p1,rfl,rfl,rfl,h0,h1⟩:=trodAll_two hA
 obtain ⟨rfl,rfl⟩:=trodVars_none hV
 obtain ⟨fs0,hu0⟩:∃fs,Try.prog.underlying 25 = some (.struct fs):=⟨_,Try.underlying25⟩
 obtain ⟨c0,rfl,hc0⟩:=okWide_struct hu0 (hval0 0 25 v0 rfl rfl)
 obtain ⟨a1,len1,cap1,rfl⟩:=okWide_slice Try.underlying48 (hval0 1 48 v1 rfl rfl)
 obtain ⟨n0,k0⟩:=h0
 obtain ⟨n1,k1⟩:=h1
 obtain ⟨⟨r0,s0,l0,g0⟩,_⟩:=A2z 8 25 _ _ _ _ sh_0 k0
 obtain ⟨⟨r1,s1,l1,g1⟩,_⟩:=A2z 8 48 _ _ _ _ sh_1 k1
 obtain ⟨x0,rfl,q0⟩:=Ds.B0k r0 s0
 obtain ⟨x1,rfl,q1⟩:=Ds.D8b r1 s1
 have hlt:∀x ∈ p0++p1,x.block < W.heap.size:=fun x hx=>by simpa using hW'.lt x (by simpa using hx)
 have hG:B63 fun β o=>W.cell? ⟨β,o,none⟩:=fun i j x h=>by simp [A52] at h
 refine (A71 (Checked.mixed Try.checked) C9n (dressBought_run x0 q0 x1 q1) W hG (vs:=#[.agg c0,.slice a1 len1 cap1]) rfl (fun j x hj=>?_)).mono fun e W' ⟨he,hB⟩=>?_
 ·match j with
  | 0 =>
   obtain rfl:_ = x:=Option.some.inj hj
   have:=Ds.B16 (g:=⟨fun _=>.none,fun β o=>W.cell? ⟨β,o,none⟩,hG⟩) l0 g0
   exact this
  | 1 =>
   obtain rfl:_ = x:=Option.some.inj hj
   obtain ⟨v,hv,hd,_⟩:=g1 0 _ rfl
   have hv:some (Value.slice a1 len1 cap1) = some v:=hv
   obtain rfl:=Option.some.inj hv
   exact .den _ _ hd
  | j + 2=>simp at hj
 subst he
 refine ⟨_,rfl,_,_,_,[],p0++p1,[],hW',?_,?_,?_,hB.frame _,fun h=>by cases h⟩
 ·exact trodAll_mk1 (shut_bool Try.underlying4 true)
 ·exact trodAll_mk2 (Below.trod laidOut (by kernel_rfl) (of_decide_eq_true (by kernel_rfl)) ⟨n0,k0⟩ hB fun x hx=>hlt x (by simp [hx])) (Below.trod laidOut (by kernel_rfl) (of_decide_eq_true (by kernel_rfl)) ⟨n1,k1⟩ hB fun x hx=>hlt x (by simp [hx]))
 ·rfl
theorem dressBought_holds:Rows.DressBoughtSaid :=
 OpenClaim.holds_of_wide 11 Try.f11 rfl rfl rfl rfl rfl rfl rfl ⟨rfl,rfl,rfl,rfl,rfl⟩ rfl rfl rfl rfl rfl (by kernel_rfl) Try.func11 (by kernel_rfl)
  (of_decide_eq_true (by kernel_rfl)) (by unfold Func.isWrapper; first | (rw [if_pos (by decide +kernel)]; kernel_rfl) | (rw [if_neg (by decide +kernel)]; exact ⟨rfl,rfl⟩))
  (fun os started H enc _=>dressBought_lifted os started H enc)
end Go.Proofs.Ytdkflofgolehkaa
end
