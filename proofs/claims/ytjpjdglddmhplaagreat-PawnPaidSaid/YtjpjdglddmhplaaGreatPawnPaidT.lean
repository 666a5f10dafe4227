/- PawnPaid returns true: what is left in the end is all money less what the plan costs; Short is the first day on which too little is left. No condition: for every show, turns and day, and every world that the row admits. -/
import Derived.Test.YtjpjdglddmhplaaGreatA7
import Derived.Test.YtjpjdglddmhplaaGreatRows
import Derived.ProofKit
import Derived.Carry
set_option linter.unusedVariables false
set_option linter.unusedSimpArgs false
set_option linter.unnecessarySimpa false
section
namespace Go.Proofs.YtjpjdglddmhplaaGreat
open Go.ChangeShapes Go.WideShapes Go.ChangeAt Go.RowKit Am
theorem own:ownKnob Tryz.prog.godebug = none:= by kernel_rfl
theorem laidOut:laidOutB Tryz.prog = true:= by kernel_rfl
theorem pawnPaid_run (x0:Pw.PaShow) (q0:Pw.NB x0) (x1:List Int) (q1:x1.length < 9223372036854775808) (x2:Int) (q2:0≤x2∧x2 < 65536):J1 Cd.tab ⟨0,[]⟩ [] (.fn (.func 9) [] []) [.agg (Pw.B1 x0),.seq 1 (x1.map A5r),.lit (.int .u16 x2)] [.b true] [] :=
 (Pw.B2f (c:=⟨0,[]⟩) (H:=[]) rfl (Pw.B9f q0 q1 q2)).1
theorem sh_0:C41 Tryz.prog 8 26 = some (Pw.C6p:List Sh):= by kernel_rfl
theorem sh_1:C41 Tryz.prog 8 52 = some ([.seq 1 [.int .u16]]:List Sh):= by kernel_rfl
theorem sh_2:C41 Tryz.prog 8 63 = some ([.int .u16]:List Sh):= by kernel_rfl
set_option maxRecDepth 100000 in
theorem pawnPaid_lifted (os:Os) (started:os.Started) (H:Type) (enc:TypeId × Value→H) :
  ReturnsInHanded {} Tryz.checked os 9 .any (Rows.pawnPaidSpec.pre6 enc Tryz.prog Tryz.f9 Rows.pawnPaidRow.domain false) (Rows.pawnPaidSpec.post enc Tryz.prog Tryz.f9 false true false false):= by
 refine returnsInHanded_of_change (C:=Tryz.checked) own started (by kernel_rfl) Tryz.func9
  (ChangeSpec.witness6 (enc:=enc) (C:=Tryz.checked) false ⟨#[],#[.agg #[.slice none 0 0,.slice none 0 0,.int .i64 0,.slice none 0 0],.slice none 0 0,.int .u16 0],[]⟩ 8 (by kernel_rfl) (by kernel_rfl) (by kernel_rfl) (by kernel_rfl)) ?_
 intro W base args ds gs before hval0 hW hcnd _
 have hW':=hW
 obtain ⟨p,q,hA0,hV,rfl,hfz,hnd⟩:=hW
 have hA:DataW.TrodAll enc Tryz.prog W 0 (fun _=>true) true [26,52,63] args.toList ds p:=hA0
 obtain ⟨v0,v1,v2,d0,d1,d2,p0,p1,p2,rfl,rfl,rfl,h0,h1,h2⟩:=trodAll_three hA
 obtain ⟨rfl,rfl⟩:=trodVars_none hV
 obtain ⟨fs0,hu0⟩:∃fs,Tryz.prog.underlying 26 = some (.struct fs):=⟨_,Tryz.underlying26⟩
 obtain ⟨c0,rfl,hc0⟩:=okWide_struct hu0 (hval0 0 26 v0 rfl rfl)
 obtain ⟨a1,len1,cap1,rfl⟩:=okWide_slice Tryz.underlying52 (hval0 1 52 v1 rfl rfl)
 obtain ⟨y2,rfl⟩:=okWide_int Tryz.underlying63 (hval0 2 63 v2 rfl rfl)
 obtain ⟨n0,k0⟩:=h0
 obtain ⟨n1,k1⟩:=h1
 obtain ⟨n2,k2⟩:=h2
 obtain ⟨⟨r0,s0,l0,g0⟩,_⟩:=A8d 8 26 _ _ _ _ sh_0 k0
 obtain ⟨⟨r1,s1,l1,g1⟩,_⟩:=A8d 8 52 _ _ _ _ sh_1 k1
 obtain ⟨⟨r2,s2,l2,g2⟩,_⟩:=A8d 8 63 _ _ _ _ sh_2 k2
 obtain ⟨x0,rfl,q0⟩:=Pw.C9g r0 s0
 obtain ⟨x1,rfl,q1⟩:=Pw.D4l r1 s1
 obtain ⟨x2,rfl,q2⟩:=Pw.D15 r2 s2
 have hlt:∀x ∈ p0++p1++p2,x.block < W.heap.size:=fun x hx=>by simpa using hW'.lt x (by simpa using hx)
 have hG:C2p fun β o=>W.cell? ⟨β,o,none⟩:=fun i j x h=>by simp [B12] at h
 refine (C54 (Checked.mixed Tryz.checked) D88 (pawnPaid_run x0 q0 x1 q1 x2 q2) W hG (vs:=#[.agg c0,.slice a1 len1 cap1,.int .u16 y2]) rfl (fun j x hj=>?_)).mono fun e W' ⟨he,hB⟩=>?_
 ·match j with
  | 0 =>
   obtain rfl:_ = x:=Option.some.inj hj
   have:=Pw.D3d (g:=⟨fun _=>.none,fun β o=>W.cell? ⟨β,o,none⟩,hG⟩) l0 g0
   exact this
  | 1 =>
   obtain rfl:_ = x:=Option.some.inj hj
   obtain ⟨v,hv,hd,_⟩:=g1 0 _ rfl
   have hv:some (Value.slice a1 len1 cap1) = some v:=hv
   obtain rfl:=Option.some.inj hv
   exact .den _ _ hd
  | 2 =>
   obtain rfl:_ = x:=Option.some.inj hj
   obtain ⟨v,hv,hd,_⟩:=g2 0 _ rfl
   obtain rfl:=Option.some.inj hv
   exact .den _ _ hd
  | j + 3=>simp at hj
 subst he
 refine ⟨_,rfl,_,_,_,[],p0++p1++p2,[],hW',?_,?_,?_,hB.frame _,fun h=>by cases h⟩
 ·exact trodAll_mk1 (shut_bool Tryz.underlying4 true)
 ·rw [List.append_assoc]; exact trodAll_mk3 (Below.trod laidOut (by kernel_rfl) (of_decide_eq_true (by kernel_rfl)) ⟨n0,k0⟩ hB fun x hx=>hlt x (by simp [hx])) (Below.trod laidOut (by kernel_rfl) (of_decide_eq_true (by kernel_rfl)) ⟨n1,k1⟩ hB fun x hx=>hlt x (by simp [hx])) (Below.trod laidOut (by kernel_rfl) (of_decide_eq_true (by kernel_rfl)) ⟨n2,k2⟩ hB fun x hx=>hlt x (by simp [hx]))
 ·rfl
theorem pawnPaid_holds:Rows.PawnPaidSaid :=
 OpenClaim.holds_of_wide 9 Tryz.f9 rfl rfl rfl rfl rfl rfl rfl ⟨rfl,rfl,rfl,rfl,rfl⟩ rfl rfl rfl rfl rfl (by kernel_rfl) Tryz.func9 (by kernel_rfl)
  (of_decide_eq_true (by kernel_rfl)) (by unfold Func.isWrapper; first | (rw [if_pos (by decide +kernel)]; kernel_rfl) | (rw [if_neg (by decide +kernel)]; exact ⟨rfl,rfl⟩))
  (fun os started H enc _=>pawnPaid_lifted os started H enc)
end Go.Proofs.YtjpjdglddmhplaaGreat
end
