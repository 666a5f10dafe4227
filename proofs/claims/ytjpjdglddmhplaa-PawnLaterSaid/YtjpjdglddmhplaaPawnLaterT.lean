/- PawnLater returns true: a gown is never cheaper to redeem on a later day. No condition: for every show, number and two days, and every world that the row admits. -/
import Derived.Test.YtjpjdglddmhplaaA7
import Derived.Test.YtjpjdglddmhplaaRows
import Derived.ProofKit
import Derived.Carry
set_option linter.unusedVariables false
set_option linter.unusedSimpArgs false
set_option linter.unnecessarySimpa false
section
namespace Go.Proofs.Ytjpjdglddmhplaa
open Go.ChangeShapes Go.WideShapes Go.ChangeAt Go.RowKit Am
theorem own:ownKnob Try.prog.godebug = none:= by kernel_rfl
theorem laidOut:laidOutB Try.prog = true:= by kernel_rfl
theorem pawnLater_run (x0:Pw.PaShow) (q0:Pw.NB x0) (x1:Int) (q1:0≤x1∧x1 < 256) (x2:Ar2 Int) (q2:(0≤x2.x0∧x2.x0 < 65536)∧(0≤x2.x1∧x2.x1 < 65536)):I3 Cd.tab ⟨0,[]⟩ [] (.fn (.func 4) [] []) [.agg (Pw.C0 x0),.lit (.int .u8 x1),.agg ((C4w B6g) x2)] [.b true] [] :=
 (Pw.A8v (c:=⟨0,[]⟩) (H:=[]) rfl (Pw.B45 q0 q1 q2)).1
theorem sh_0:C22 Try.prog 8 26 = some (Pw.C23:List Sh):= by kernel_rfl
theorem sh_1:C22 Try.prog 8 5 = some ([.int .u8]:List Sh):= by kernel_rfl
set_option maxRecDepth 100000 in
theorem pawnLater_lifted (os:Os) (started:os.Started) (H:Type) (enc:TypeId × Value→H) :
  ReturnsInHanded {} Try.checked os 4 .any (Rows.pawnLaterSpec.pre6 enc Try.prog Try.f4 Rows.pawnLaterRow.domain false) (Rows.pawnLaterSpec.post enc Try.prog Try.f4 false true false false):= by
 refine returnsInHanded_of_change (C:=Try.checked) own started (by kernel_rfl) Try.func4
  (ChangeSpec.witness6 (enc:=enc) (C:=Try.checked) false ⟨#[],#[.agg #[.slice none 0 0,.slice none 0 0,.int .i64 0,.slice none 0 0],.int .u8 0,.agg #[.int .u16 0,.int .u16 0]],[]⟩ 8 (by kernel_rfl) (by kernel_rfl) (by kernel_rfl) (by kernel_rfl)) ?_
 intro W base args ds gs before hval0 hW hcnd _
 have hW':=hW
 obtain ⟨p,q,hA0,hV,rfl,hfz,hnd⟩:=hW
 have hA:DataW.TrodAll enc Try.prog W 0 (fun _=>true) true [26,5,46] args.toList ds p:=hA0
 obtain ⟨v0,v1,v2,d0,d1,d2,p0,p1,p2,rfl,rfl,rfl,h0,h1,h2⟩:=trodAll_three hA
 obtain ⟨rfl,rfl⟩:=trodVars_none hV
 obtain ⟨fs0,hu0⟩:∃fs,Try.prog.underlying 26 = some (.struct fs):=⟨_,Try.underlying26⟩
 obtain ⟨c0,rfl,hc0⟩:=okWide_struct hu0 (hval0 0 26 v0 rfl rfl)
 obtain ⟨y1,rfl⟩:=okWide_int Try.underlying5 (hval0 1 5 v1 rfl rfl)
 obtain ⟨c2,rfl,hc2⟩:=C0r Try.underlying46 (hval0 2 46 v2 rfl rfl)
 obtain ⟨n0,k0⟩:=h0
 obtain ⟨n1,k1⟩:=h1
 obtain ⟨n2,k2⟩:=h2
 obtain ⟨⟨r0,s0,l0,g0⟩,_⟩:=A9f 8 26 _ _ _ _ sh_0 k0
 obtain ⟨⟨r1,s1,l1,g1⟩,_⟩:=A9f 8 5 _ _ _ _ sh_1 k1
 obtain ⟨⟨r2,s2,l2,g2⟩,_⟩:=C4y Try.underlying46 Try.underlying45 (by kernel_rfl) (by kernel_rfl) k2
 obtain ⟨x0,rfl,q0⟩:=Pw.C5n r0 s0
 obtain ⟨x1,rfl,q1⟩:=Pw.D06 r1 s1
 obtain ⟨x2,rfl,q2⟩:=Pw.D0c r2 s2
 have hlt:∀x ∈ p0++p1++p2,x.block < W.heap.size:=fun x hx=>by simpa using hW'.lt x (by simpa using hx)
 have hG:B89 fun β o=>W.cell? ⟨β,o,none⟩:=fun i j x h=>by simp [A9r] at h
 refine (C2e (Checked.mixed Try.checked) D4n (pawnLater_run x0 q0 x1 q1 x2 q2) W hG (vs:=#[.agg c0,.int .u8 y1,.agg c2]) rfl (fun j x hj=>?_)).mono fun e W' ⟨he,hB⟩=>?_
 ·match j with
  | 0 =>
   obtain rfl:_ = x:=Option.some.inj hj
   have:=Pw.C3c (g:=⟨fun _=>.none,fun β o=>W.cell? ⟨β,o,none⟩,hG⟩) l0 g0
   exact this
  | 1 =>
   obtain rfl:_ = x:=Option.some.inj hj
   obtain ⟨v,hv,hd,_⟩:=g1 0 _ rfl
   obtain rfl:=Option.some.inj hv
   exact .den _ _ hd
  | 2 =>
   obtain rfl:_ = x:=Option.some.inj hj
   have:=Pw.C3c (g:=⟨fun _=>.none,fun β o=>W.cell? ⟨β,o,none⟩,hG⟩) l2 g2
   exact this
  | j + 3=>simp at hj
 subst he
 refine ⟨_,rfl,_,_,_,[],p0++p1++p2,[],hW',?_,?_,?_,hB.frame _,fun h=>by cases h⟩
 ·exact trodAll_mk1 (shut_bool Try.underlying4 true)
 ·rw [List.append_assoc]; exact trodAll_mk3 (Below.trod laidOut (by kernel_rfl) (of_decide_eq_true (by kernel_rfl)) ⟨n0,k0⟩ hB fun x hx=>hlt x (by simp [hx])) (Below.trod laidOut (by kernel_rfl) (of_decide_eq_true (by kernel_rfl)) ⟨n1,k1⟩ hB fun x hx=>hlt x (by simp [hx])) (Below.trod laidOut (by kernel_rfl) (of_decide_eq_true (by kernel_rfl)) ⟨n2,k2⟩ hB fun x hx=>hlt x (by simp [hx]))
 ·rfl
theorem pawnLater_holds:Rows.PawnLaterSaid :=
 OpenClaim.holds_of_wide 4 Try.f4 rfl rfl rfl rfl rfl rfl rfl ⟨rfl,rfl,rfl,rfl,rfl⟩ rfl rfl rfl rfl rfl (by kernel_rfl) Try.func4 (by kernel_rfl)
  (of_decide_eq_true (by kernel_rfl)) (by unfold Func.isWrapper; first | (rw [if_pos (by decide +kernel)]; kernel_rfl) | (rw [if_neg (by decide +kernel)]; exact ⟨rfl,rfl⟩))
  (fun os started H enc _=>pawnLater_lifted os started H enc)
end Go.Proofs.Ytjpjdglddmhplaa
end
