/- PawnBare returns true: who must go without a gown does by any best plan, who may does by some. No condition: for every show, turns and number, and every world that the row admits. -/
import Derived.Test.YtjpjdglddmhplaaGreatA7
import Derived.Test.YtjpjdglddmhplaaGreatRows
import Derived.ProofKit
import Derived.Carry
set_option linter.unusedVariables false
set_option linter.unusedSimpArgs false
set_option linter.unnecessarySimpa false
open Option.some renaming inj→Z01
section
namespace Go.Proofs.YtjpjdglddmhplaaGreat
open Go.ChangeShapes Go.WideShapes Go.ChangeAt Go.RowKit Am
theorem own:ownKnob Tryz.prog.godebug=none:= by kernel_rfl
theorem laidOut:laidOutB Tryz.prog=true:= by kernel_rfl
theorem pawnBare_run (x0:Pw.PaShow) (q0:Pw.NB x0) (x1:List Int) (q1:x1.length<9223372036854775808) (x2:Int) (q2:0≤x2∧x2<256):K8 Cd.tab ⟨0,[]⟩ [] (.fn (.func 7) [] []) [.agg (Pw.B1 x0),.seq 1 (x1.map A31),.lit (.int .u8 x2)] [.b true] [] :=
 (Pw.B4n (c:=⟨0,[]⟩) (H:=[]) Z (Pw.C18 q0 q1 q2)).1
theorem sh_0:C8b Tryz.prog 8 26=some (Pw.C98:List Sh):= by kernel_rfl
theorem sh_1:C8b Tryz.prog 8 52=some ([.seq 1 [.int .u16]]:List Sh):= by kernel_rfl
theorem sh_2:C8b Tryz.prog 8 5=some ([.int .u8]:List Sh):= by kernel_rfl
set_option maxRecDepth 100000 in
theorem pawnBare_lifted (os:Os) (started:os.Started) (H:Type) (enc:TypeId×Value→H) :
  ReturnsInHanded {} Tryz.checked os 7 .any (Rows.pawnBareSpec.pre6 enc Tryz.prog Tryz.f7 Rows.pawnBareRow.domain false) (Rows.pawnBareSpec.post enc Tryz.prog Tryz.f7 false true false false):= by
 refine returnsInHanded_of_change (C:=Tryz.checked) own started (by kernel_rfl) Tryz.func7
  (ChangeSpec.witness6 (enc:=enc) (C:=Tryz.checked) false ⟨#[],#[.agg #[.slice none 0 0,.slice none 0 0,.int .i64 0,.slice none 0 0],.slice none 0 0,.int .u8 0],[]⟩ 8 (by kernel_rfl) (by kernel_rfl) (by kernel_rfl) (by kernel_rfl)) ?_
 intro W base args ds gs before hval0 hW hcnd _
 have hW':=hW
 obtain⟨p,q,hA0,hV,rfl,hfz,hnd⟩:=hW
 have hA:DataW.TrodAll enc Tryz.prog W 0 (fun _=>true) true [26,52,5] args.toList ds p:=hA0
 obtain⟨v0,v1,v2,d0,d1,d2,p0,p1,p2,rfl,rfl,rfl,h0,h1,h2⟩:=trodAll_three hA
 obtain⟨rfl,rfl⟩:=trodVars_none hV
 obtain⟨fs0,hu0⟩:∃fs,Tryz.prog.underlying 26=some (.struct fs):=⟨_,Tryz.underlying26⟩
 obtain⟨c0,rfl,hc0⟩:=okWide_struct hu0 (hval0 0 26 v0 Z Z)
 obtain⟨a1,len1,cap1,rfl⟩:=okWide_slice Tryz.underlying52 (hval0 1 52 v1 Z Z)
 obtain⟨y2,rfl⟩:=okWide_int Tryz.underlying5 (hval0 2 5 v2 Z Z)
 obtain⟨n0,k0⟩:=h0
 obtain⟨n1,k1⟩:=h1
 obtain⟨n2,k2⟩:=h2
 obtain⟨⟨r0,s0,l0,g0⟩,_⟩:=B0f 8 26 _ _ _ _ sh_0 k0
 obtain⟨⟨r1,s1,l1,g1⟩,_⟩:=B0f 8 52 _ _ _ _ sh_1 k1
 obtain⟨⟨r2,s2,l2,g2⟩,_⟩:=B0f 8 5 _ _ _ _ sh_2 k2
 obtain⟨x0,rfl,q0⟩:=Pw.D29 r0 s0
 obtain⟨x1,rfl,q1⟩:=Pw.D8n r1 s1
 obtain⟨x2,rfl,q2⟩:=Pw.D9l r2 s2
 have hlt:∀x∈p0++p1++p2,x.block<W.heap.size:=fun x hx=>by simpa using hW'.lt x (by simpa using hx)
 have hG:C5w fun β o=>W.cell? ⟨β,o,none⟩:=fun i j x h=>by simp[B4a]at h
 refine(C9k (Checked.mixed Tryz.checked) E3k (pawnBare_run x0 q0 x1 q1 x2 q2) W hG (vs:=#[.agg c0,.slice a1 len1 cap1,.int .u8 y2]) Z (fun j x hj=>?_)).mono fun e W' ⟨he,hB⟩=>?_
 ·match j with
  | 0 =>
   obtain rfl:_=x:=Z01 hj
   have:=Pw.D7d (g:=⟨fun _=>.none,fun β o=>W.cell? ⟨β,o,none⟩,hG⟩) l0 g0
   exact this
  | 1 =>
   obtain rfl:_=x:=Z01 hj
   obtain⟨v,hv,hd,_⟩:=g1 0 _ Z
   have hv:some (Value.slice a1 len1 cap1)=some v:=hv
   obtain rfl:=Z01 hv
   exact .den _ _ hd
  | 2 =>
   obtain rfl:_=x:=Z01 hj
   obtain⟨v,hv,hd,_⟩:=g2 0 _ Z
   obtain rfl:=Z01 hv
   exact .den _ _ hd
  | j+3=>simp at hj
 subst he
 refine⟨_,Z,_,_,_,[],p0++p1++p2,[],hW',?_,?_,?_,hB.frame _,fun h=>by cases h⟩
 ·exact trodAll_mk1 (shut_bool Tryz.underlying4 true)
 ·rw[List.append_assoc];exact trodAll_mk3 (Below.trod laidOut (by kernel_rfl) (of_decide_eq_true (by kernel_rfl)) ⟨n0,k0⟩ hB fun x hx=>hlt x (by simp[hx])) (Below.trod laidOut (by kernel_rfl) (of_decide_eq_true (by kernel_rfl)) ⟨n1,k1⟩ hB fun x hx=>hlt x (by simp[hx])) (Below.trod laidOut (by kernel_rfl) (of_decide_eq_true (by kernel_rfl)) ⟨n2,k2⟩ hB fun x hx=>hlt x (by simp[hx]))
 ·rfl
theorem pawnBare_holds:Rows.PawnBareSaid :=
 OpenClaim.holds_of_wide 7 Tryz.f7 Z Z Z Z Z Z Z ⟨Z,Z,Z,Z,Z⟩ Z Z Z Z Z (by kernel_rfl) Tryz.func7 (by kernel_rfl)
  (of_decide_eq_true (by kernel_rfl)) (by unfold Func.isWrapper;first|(rw[if_pos (by decide +kernel)];kernel_rfl)|(rw[if_neg (by decide +kernel)];exact⟨Z,Z⟩))
  (fun os started H enc _=>pawnBare_lifted os started H enc)
end Go.Proofs.YtjpjdglddmhplaaGreat
end
