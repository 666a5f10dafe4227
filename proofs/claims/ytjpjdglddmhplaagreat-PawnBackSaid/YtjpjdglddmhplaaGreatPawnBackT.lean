/- PawnBack returns true: by the plan of Best all is paid, and no plan that can be paid is better. No condition: for every show and turns, and every world that the row admits. -/
import Derived.Test.YtjpjdglddmhplaaGreatA7
import Derived.Test.YtjpjdglddmhplaaGreatRows
import Derived.ProofKit
import Derived.Carry
set_option linter.unusedVariables false
set_option linter.unusedSimpArgs false
set_option linter.unnecessarySimpa false
open Option.some renaming inj→Z01
section
namespace Go.Proofs.YtjpjdglddmhplaaGreat
open Go.ChangeShapes Go.WideShapes Go.ChangeAt Go.RowKit Am
theorem own:ownKnob Tryz.prog.godebug=none:= by kernel_rfl
theorem laidOut:laidOutB Tryz.prog=true:= by kernel_rfl
theorem pawnBack_run (x0:Pw.PaShow) (q0:Pw.NB x0) (x1:List Int) (q1:x1.length<9223372036854775808):K7 Cd.tab ⟨0,[]⟩ [] (.fn (.func 6) [] []) [.agg (Pw.B1 x0),.seq 1 (x1.map A5u)] [.b true] [] :=
 (Pw.B3z (c:=⟨0,[]⟩) (H:=[]) Z (Pw.C1b q0 q1)).1
theorem sh_0:C8x Tryz.prog 8 26=some (Pw.C8y:List Sh):= by kernel_rfl
theorem sh_1:C8x Tryz.prog 8 52=some ([.seq 1 [.int .u16]]:List Sh):= by kernel_rfl
set_option maxRecDepth 100000 in
theorem pawnBack_lifted (os:Os) (started:os.Started) (H:Type) (enc:TypeId×Value→H) :
  ReturnsInHanded {} Tryz.checked os 6 .any (Rows.pawnBackSpec.pre6 enc Tryz.prog Tryz.f6 Rows.pawnBackRow.domain false) (Rows.pawnBackSpec.post enc Tryz.prog Tryz.f6 false true false false):= by
 refine returnsInHanded_of_change (C:=Tryz.checked) own started (by kernel_rfl) Tryz.func6
  (ChangeSpec.witness6 (enc:=enc) (C:=Tryz.checked) false ⟨#[],#[.agg #[.slice none 0 0,.slice none 0 0,.int .i64 0,.slice none 0 0],.slice none 0 0],[]⟩ 8 (by kernel_rfl) (by kernel_rfl) (by kernel_rfl) (by kernel_rfl)) ?_
 intro W base args ds gs before hval0 hW hcnd _
 have hW':=hW
 obtain⟨p,q,hA0,hV,rfl,hfz,hnd⟩:=hW
 have hA:DataW.TrodAll enc Tryz.prog W 0 (fun _=>true) true [26,52] args.toList ds p:=hA0
 obtain⟨v0,v1,d0,d1,p0,p1,rfl,rfl,rfl,h0,h1⟩:=trodAll_two hA
 obtain⟨rfl,rfl⟩:=trodVars_none hV
 obtain⟨fs0,hu0⟩:∃fs,Tryz.prog.underlying 26=some (.struct fs):=⟨_,Tryz.underlying26⟩
 obtain⟨c0,rfl,hc0⟩:=okWide_struct hu0 (hval0 0 26 v0 Z Z)
 obtain⟨a1,len1,cap1,rfl⟩:=okWide_slice Tryz.underlying52 (hval0 1 52 v1 Z Z)
 obtain⟨n0,k0⟩:=h0
 obtain⟨n1,k1⟩:=h1
 obtain⟨⟨r0,s0,l0,g0⟩,_⟩:=B29 8 26 _ _ _ _ sh_0 k0
 obtain⟨⟨r1,s1,l1,g1⟩,_⟩:=B29 8 52 _ _ _ _ sh_1 k1
 obtain⟨x0,rfl,q0⟩:=Pw.D1s r0 s0
 obtain⟨x1,rfl,q1⟩:=Pw.D67 r1 s1
 have hlt:∀x∈p0++p1,x.block<W.heap.size:=fun x hx=>by simpa using hW'.lt x (by simpa using hx)
 have hG:C4t fun β o=>W.cell? ⟨β,o,none⟩:=fun i j x h=>by simp[B3m]at h
 refine(C78 (Checked.mixed Tryz.checked) E11 (pawnBack_run x0 q0 x1 q1) W hG (vs:=#[.agg c0,.slice a1 len1 cap1]) Z (fun j x hj=>?_)).mono fun e W' ⟨he,hB⟩=>?_
 ·match j with
  | 0 =>
   obtain rfl:_=x:=Z01 hj
   have:=Pw.D5v (g:=⟨fun _=>.none,fun β o=>W.cell? ⟨β,o,none⟩,hG⟩) l0 g0
   exact this
  | 1 =>
   obtain rfl:_=x:=Z01 hj
   obtain⟨v,hv,hd,_⟩:=g1 0 _ Z
   have hv:some (Value.slice a1 len1 cap1)=some v:=hv
   obtain rfl:=Z01 hv
   exact .den _ _ hd
  | j+2=>simp at hj
 subst he
 refine⟨_,Z,_,_,_,[],p0++p1,[],hW',?_,?_,?_,hB.frame _,fun h=>by cases h⟩
 ·exact trodAll_mk1 (shut_bool Tryz.underlying4 true)
 ·exact trodAll_mk2 (Below.trod laidOut (by kernel_rfl) (of_decide_eq_true (by kernel_rfl)) ⟨n0,k0⟩ hB fun x hx=>hlt x (by simp[hx])) (Below.trod laidOut (by kernel_rfl) (of_decide_eq_true (by kernel_rfl)) ⟨n1,k1⟩ hB fun x hx=>hlt x (by simp[hx]))
 ·rfl
theorem pawnBack_holds:Rows.PawnBackSaid :=
 OpenClaim.holds_of_wide 6 Tryz.f6 Z Z Z Z Z Z Z ⟨Z,Z,Z,Z,Z⟩ Z Z Z Z Z (by kernel_rfl) Tryz.func6 (by kernel_rfl)
  (of_decide_eq_true (by kernel_rfl)) (by unfold Func.isWrapper;first|(rw[if_pos (by decide +kernel)];kernel_rfl)|(rw[if_neg (by decide +kernel)];exact⟨Z,Z⟩))
  (fun os started H enc _=>pawnBack_lifted os started H enc)
end Go.Proofs.YtjpjdglddmhplaaGreat
end
