/- PawnPrices returns true: Check, Redeem, Borrow and Suits return what the reference says. No condition: for every show, gown, figure and day, and every world that the row admits. -/
import Derived.Test.YtjpjdglddmhplaaGreatA7
import Derived.Test.YtjpjdglddmhplaaGreatRows
import Derived.ProofKit
import Derived.Carry
set_option linter.unusedVariables false
set_option linter.unusedSimpArgs false
set_option linter.unnecessarySimpa false
section
namespace Go.Proofs.YtjpjdglddmhplaaGreat
open Go.ChangeShapes Go.WideShapes Go.ChangeAt Go.RowKit Am
theorem own:ownKnob Tryz.prog.godebug = none:= by kernel_rfl
theorem laidOut:laidOutB Tryz.prog = true:= by kernel_rfl
theorem pawnPrices_run (x0:Pw.PaShow) (q0:Pw.NB x0) (x1:Pw.law04_Asked) (q1:True):I4 Cd.tab ⟨0,[]⟩ [] (.fn (.func 3) [] []) [.agg (Pw.B4 x0),.agg (Pw.A2i x1)] [.b true] [] :=
 (Pw.A8s (c:=⟨0,[]⟩) (H:=[]) rfl (Pw.B4b q0 q1)).1
theorem sh_0:C4r Tryz.prog 8 26 = some (Pw.C4s:List Sh):= by kernel_rfl
theorem sh_1:C4r Tryz.prog 8 28 = some ([.int .i64,.int .i64,.int .i64]:List Sh):= by kernel_rfl
set_option maxRecDepth 100000 in
theorem pawnPrices_lifted (os:Os) (started:os.Started) (H:Type) (enc:TypeId × Value→H) :
  ReturnsInHanded {} Tryz.checked os 3 .any (Rows.pawnPricesSpec.pre6 enc Tryz.prog Tryz.f3 Rows.pawnPricesRow.domain false) (Rows.pawnPricesSpec.post enc Tryz.prog Tryz.f3 false true false false):= by
 refine returnsInHanded_of_change (C:=Tryz.checked) own started (by kernel_rfl) Tryz.func3
  (ChangeSpec.witness6 (enc:=enc) (C:=Tryz.checked) false ⟨#[],#[.agg #[.slice none 0 0,.slice none 0 0,.int .i64 0,.slice none 0 0],.agg #[.int .i64 0,.int .i64 0,.int .i64 0]],[]⟩ 8 (by kernel_rfl) (by kernel_rfl) (by kernel_rfl) (by kernel_rfl)) ?_
 intro W base args ds gs before hval0 hW hcnd _
 have hW':=hW
 obtain ⟨p,q,hA0,hV,rfl,hfz,hnd⟩:=hW
 have hA:DataW.TrodAll enc Tryz.prog W 0 (fun _=>true) true [26,28] args.toList ds p:=hA0
 obtain ⟨v0,v1,d0,d1,p0,p1,rfl,rfl,rfl,h0,h1⟩:=trodAll_two hA
 obtain ⟨rfl,rfl⟩:=trodVars_none hV
 obtain ⟨fs0,hu0⟩:∃fs,Tryz.prog.underlying 26 = some (.struct fs):=⟨_,Tryz.underlying26⟩
 obtain ⟨c0,rfl,hc0⟩:=okWide_struct hu0 (hval0 0 26 v0 rfl rfl)
 obtain ⟨fs1,hu1⟩:∃fs,Tryz.prog.underlying 28 = some (.struct fs):=⟨_,Tryz.underlying28⟩
 obtain ⟨c1,rfl,hc1⟩:=okWide_struct hu1 (hval0 1 28 v1 rfl rfl)
 obtain ⟨n0,k0⟩:=h0
 obtain ⟨n1,k1⟩:=h1
 obtain ⟨⟨r0,s0,l0,g0⟩,_⟩:=A98 8 26 _ _ _ _ sh_0 k0
 obtain ⟨⟨r1,s1,l1,g1⟩,_⟩:=A98 8 28 _ _ _ _ sh_1 k1
 obtain ⟨x0,rfl,q0⟩:=Pw.C7d r0 s0
 obtain ⟨x1,rfl,q1⟩:=Pw.C90 r1 s1
 have hlt:∀x ∈ p0++p1,x.block < W.heap.size:=fun x hx=>by simpa using hW'.lt x (by simpa using hx)
 have hG:C0z fun β o=>W.cell? ⟨β,o,none⟩:=fun i j x h=>by simp [B0l] at h
 refine (C34 (Checked.mixed Tryz.checked) D62 (pawnPrices_run x0 q0 x1 q1) W hG (vs:=#[.agg c0,.agg c1]) rfl (fun j x hj=>?_)).mono fun e W' ⟨he,hB⟩=>?_
 ·match j with
  | 0 =>
   obtain rfl:_ = x:=Option.some.inj hj
   have:=Pw.C43 (g:=⟨fun _=>.none,fun β o=>W.cell? ⟨β,o,none⟩,hG⟩) l0 g0
   exact this
  | 1 =>
   obtain rfl:_ = x:=Option.some.inj hj
   have:=Pw.C43 (g:=⟨fun _=>.none,fun β o=>W.cell? ⟨β,o,none⟩,hG⟩) l1 g1
   exact this
  | j + 2=>simp at hj
 subst he
 refine ⟨_,rfl,_,_,_,[],p0++p1,[],hW',?_,?_,?_,hB.frame _,fun h=>by cases h⟩
 ·exact trodAll_mk1 (shut_bool Tryz.underlying4 true)
 ·exact trodAll_mk2 (Below.trod laidOut (by kernel_rfl) (of_decide_eq_true (by kernel_rfl)) ⟨n0,k0⟩ hB fun x hx=>hlt x (by simp [hx])) (Below.trod laidOut (by kernel_rfl) (of_decide_eq_true (by kernel_rfl)) ⟨n1,k1⟩ hB fun x hx=>hlt x (by simp [hx]))
 ·rfl
theorem pawnPrices_holds:Rows.PawnPricesSaid :=
 OpenClaim.holds_of_wide 3 Tryz.f3 rfl rfl rfl rfl rfl rfl rfl ⟨rfl,rfl,rfl,rfl,rfl⟩ rfl rfl rfl rfl rfl (by kernel_rfl) Tryz.func3 (by kernel_rfl)
  (of_decide_eq_true (by kernel_rfl)) (by unfold Func.isWrapper; first | (rw [if_pos (by decide +kernel)]; kernel_rfl) | (rw [if_neg (by decide +kernel)]; exact ⟨rfl,rfl⟩))
  (fun os started H enc _=>pawnPrices_lifted os started H enc)
end Go.Proofs.YtjpjdglddmhplaaGreat
end
