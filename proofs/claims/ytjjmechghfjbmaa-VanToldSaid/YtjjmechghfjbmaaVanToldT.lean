/- VanTold returns true: Told never is wider than Times; if any roads have brought the van to the stop at the minute the times of all stops are within Told. No condition: for every train, plan, roads, van and stop, and every world that the row admits. -/
import Derived.Test.YtjjmechghfjbmaaA12
import Derived.Test.YtjjmechghfjbmaaRows
import Derived.ProofKit
import Derived.Carry
set_option linter.unusedVariables false
set_option linter.unusedSimpArgs false
set_option linter.unnecessarySimpa false
section
namespace Go.Proofs.Ytjjmechghfjbmaa
open Go.ChangeShapes Go.WideShapes Go.ChangeAt Go.RowKit Am
theorem own:ownKnob Try.prog.godebug = none:= by kernel_rfl
theorem laidOut:laidOutB Try.prog = true:= by kernel_rfl
theorem vanTold_run (x0:Vn.VaTrain) (q0:Vn.NB x0) (x1:Vn.law06_Past) (q1:Vn.N16 x1.Plan∧Vn.N16 x1.Roads) (x2:IArr 2) (q2:Vn.B8 x2):CallR Cd.tab ⟨0,[]⟩ [] (.fn (.func 11) [] []) [.agg (Vn.c_VaTrain x0),.agg (Vn.c_law06_Past x1),.agg (cA .u8 x2)] [.b true] [] :=
 (Vn.ok_law06_VanTold (c:=⟨0,[]⟩) (H:=[]) rfl (Vn.vanTold_true q0 q1 q2)).1
theorem sh_0:shOf Try.prog 8 26 = some (Vn.shTrain:List Sh):= by kernel_rfl
theorem sh_1:shOf Try.prog 8 57 = some ([.seq 1 [.int .u16],.seq 1 [.int .u16]]:List Sh):= by kernel_rfl
set_option maxRecDepth 100000 in
theorem vanTold_lifted (os:Os) (started:os.Started) (H:Type) (enc:TypeId × Value→H) :
  ReturnsInHanded {} Try.checked os 11 .any (Rows.vanToldSpec.pre6 enc Try.prog Try.f11 Rows.vanToldRow.domain false) (Rows.vanToldSpec.post enc Try.prog Try.f11 false true false false):= by
 refine returnsInHanded_of_change (C:=Try.checked) own started (by kernel_rfl) Try.func11
  (ChangeSpec.witness6 (enc:=enc) (C:=Try.checked) false ⟨#[],#[.agg #[.slice none 0 0,.int .i64 0,.int .i64 0,.slice none 0 0,.slice none 0 0],.agg #[.slice none 0 0,.slice none 0 0],.agg #[.int .u8 0,.int .u8 0]],[]⟩ 8 (by kernel_rfl) (by kernel_rfl) (by kernel_rfl) (by kernel_rfl)) ?_
 intro W base args ds gs before hval0 hW hcnd _
 have hW':=hW
 obtain ⟨p,q,hA0,hV,rfl,hfz,hnd⟩:=hW
 have hA:DataW.TrodAll enc Try.prog W 0 (fun _=>true) true [26,57,71] args.toList ds p:=hA0
 obtain ⟨v0,v1,v2,d0,d1,d2,p0,p1,p2,rfl,rfl,rfl,h0,h1,h2⟩:=trodAll_three hA
 obtain ⟨rfl,rfl⟩:=trodVars_none hV
 obtain ⟨fs0,hu0⟩:∃fs,Try.prog.underlying 26 = some (.struct fs):=⟨_,Try.underlying26⟩
 obtain ⟨c0,rfl,hc0⟩:=okWide_struct hu0 (hval0 0 26 v0 rfl rfl)
 obtain ⟨fs1,hu1⟩:∃fs,Try.prog.underlying 57 = some (.struct fs):=⟨_,Try.underlying57⟩
 obtain ⟨c1,rfl,hc1⟩:=okWide_struct hu1 (hval0 1 57 v1 rfl rfl)
 obtain ⟨c2,rfl,hc2⟩:=okWide_arr0 Try.underlying71 (hval0 2 71 v2 rfl rfl)
 obtain ⟨n0,k0⟩:=h0
 obtain ⟨n1,k1⟩:=h1
 obtain ⟨n2,k2⟩:=h2
 obtain ⟨⟨r0,s0,l0,g0⟩,_⟩:=cells_of 8 26 _ _ _ _ sh_0 k0
 obtain ⟨⟨r1,s1,l1,g1⟩,_⟩:=cells_of 8 57 _ _ _ _ sh_1 k1
 obtain ⟨⟨r2,s2,l2,g2⟩,_⟩:=cells_arr Try.underlying71 Try.underlying5 (by kernel_rfl) (by kernel_rfl) k2
 obtain ⟨x0,rfl,q0⟩:=Vn.of_VaTrain r0 s0
 obtain ⟨x1,rfl,q1⟩:=Vn.of_Past r1 s1
 obtain ⟨x2,rfl,q2⟩:=Vn.of_B8 r2 s2
 have hlt:∀x ∈ p0++p1++p2,x.block < W.heap.size:=fun x hx=>by simpa using hW'.lt x (by simpa using hx)
 refine (law_callsV (Checked.mixed Try.checked) tabOk (vanTold_run x0 q0 x1 q1 x2 q2) W (vs:=#[.agg c0,.agg c1,.agg c2]) rfl (fun j x hj=>?_)).mono fun e W' ⟨he,hB⟩=>?_
 ·match j with
  | 0 =>
   obtain rfl:_ = x:=Option.some.inj hj
   have:=Vn.V_cells (g:=⟨fun _=>.none,fun β o=>W.cell? ⟨β,o,none⟩⟩) l0 g0
   exact this
  | 1 =>
   obtain rfl:_ = x:=Option.some.inj hj
   have:=Vn.V_cells (g:=⟨fun _=>.none,fun β o=>W.cell? ⟨β,o,none⟩⟩) l1 g1
   exact this
  | 2 =>
   obtain rfl:_ = x:=Option.some.inj hj
   have:=Vn.V_cells (g:=⟨fun _=>.none,fun β o=>W.cell? ⟨β,o,none⟩⟩) l2 g2
   exact this
  | j + 3=>simp at hj
 subst he
 refine ⟨_,rfl,_,_,_,[],p0++p1++p2,[],hW',?_,?_,?_,hB.frame _,fun h=>by cases h⟩
 ·exact trodAll_mk1 (shut_bool Try.underlying4 true)
 ·rw [List.append_assoc]; exact trodAll_mk3 (Below.trod laidOut (by kernel_rfl) (of_decide_eq_true (by kernel_rfl)) ⟨n0,k0⟩ hB fun x hx=>hlt x (by simp [hx])) (Below.trod laidOut (by kernel_rfl) (of_decide_eq_true (by kernel_rfl)) ⟨n1,k1⟩ hB fun x hx=>hlt x (by simp [hx])) (Below.trod laidOut (by kernel_rfl) (of_decide_eq_true (by kernel_rfl)) ⟨n2,k2⟩ hB fun x hx=>hlt x (by simp [hx]))
 ·rfl
theorem vanTold_holds:Rows.VanToldSaid :=
 OpenClaim.holds_of_wide 11 Try.f11 rfl rfl rfl rfl rfl rfl rfl ⟨rfl,rfl,rfl,rfl,rfl⟩ rfl rfl rfl rfl rfl (by kernel_rfl) Try.func11 (by kernel_rfl)
  (of_decide_eq_true (by kernel_rfl)) (by unfold Func.isWrapper; first | (rw [if_pos (by decide +kernel)]; kernel_rfl) | (rw [if_neg (by decide +kernel)]; exact ⟨rfl,rfl⟩))
  (fun os started H enc _=>vanTold_lifted os started H enc)
end Go.Proofs.Ytjjmechghfjbmaa
end
