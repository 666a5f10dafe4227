/- VanTimes returns true: Check, Twice, Times and Arrives return what the document says. No condition: for every train, plan and question, and every world that the row admits. -/
import Derived.Test.YtjjmechghfjbmaaA12
import Derived.Test.YtjjmechghfjbmaaRows
import Derived.ProofKit
import Derived.Carry
set_option linter.unusedVariables false
set_option linter.unusedSimpArgs false
set_option linter.unnecessarySimpa false
section
namespace Go.Proofs.Ytjjmechghfjbmaa
open Go.ChangeShapes Go.WideShapes Go.ChangeAt Go.RowKit Am
theorem own:ownKnob Try.prog.godebug = none:= by kernel_rfl
theorem laidOut:laidOutB Try.prog = true:= by kernel_rfl
theorem vanTimes_run (t:Vn.VaTrain) (h:Vn.NB t) (p:List Int) (a:Vn.law06_Asked):CallR Cd.tab ⟨0,[]⟩ [] (.fn (.func 3) [] []) [.agg (Vn.c_VaTrain t),.seq 1 (p.map cI),.agg (Vn.c_law06_Asked a)] [.b true] [] :=
 (Vn.ok_law06_VanTimes (c:=⟨0,[]⟩) (H:=[]) rfl (Vn.vanTimes_true h p a)).1
theorem sh26:shOf Try.prog 8 26 = some Vn.shTrain:= by kernel_rfl
theorem sh27:shOf Try.prog 8 27 = some [.seq 1 [.int .i64]]:= by kernel_rfl
theorem sh29:shOf Try.prog 8 29 = some [.int .i64,.int .i64,.int .i64,.int .i64]:= by kernel_rfl
set_option maxRecDepth 100000 in
theorem vanTimes_lifted (os:Os) (started:os.Started) (H:Type) (enc:TypeId × Value→H) :
  ReturnsInHanded {} Try.checked os 3 .any (Rows.vanTimesSpec.pre6 enc Try.prog Try.f3 Rows.vanTimesRow.domain false) (Rows.vanTimesSpec.post enc Try.prog Try.f3 false true false false):= by
 refine returnsInHanded_of_change (C:=Try.checked) own started (by kernel_rfl) Try.func3
  (ChangeSpec.witness6 (enc:=enc) (C:=Try.checked) false ⟨#[],#[.agg #[.slice none 0 0,.int .i64 0,.int .i64 0,.slice none 0 0,.slice none 0 0],.slice none 0 0,.agg #[.int .i64 0,.int .i64 0,.int .i64 0,.int .i64 0]],[]⟩ 8 (by kernel_rfl) (by kernel_rfl) (by kernel_rfl) (by kernel_rfl)) ?_
 intro W base args ds gs before hval0 hW hcnd _
 have hW':=hW
 obtain ⟨p,q,hA0,hV,rfl,hfz,hnd⟩:=hW
 have hA:DataW.TrodAll enc Try.prog W 0 (fun _=>true) true [26,27,29] args.toList ds p:=hA0
 obtain ⟨v0,v1,v2,d0,d1,d2,p0,p1,p2,rfl,rfl,rfl,h0,h1,h2⟩:=trodAll_three hA
 obtain ⟨rfl,rfl⟩:=trodVars_none hV
 obtain ⟨fs0,hu0⟩:∃fs,Try.prog.underlying 26 = some (.struct fs):=⟨_,Try.underlying26⟩
 obtain ⟨fs2,hu2⟩:∃fs,Try.prog.underlying 29 = some (.struct fs):=⟨_,Try.underlying29⟩
 obtain ⟨c0,rfl,hc0⟩:=okWide_struct hu0 (hval0 0 26 v0 rfl rfl)
 obtain ⟨a1,len1,cap1,rfl⟩:=okWide_slice Try.underlying27 (hval0 1 27 v1 rfl rfl)
 obtain ⟨c2,rfl,hc2⟩:=okWide_struct hu2 (hval0 2 29 v2 rfl rfl)
 obtain ⟨n0,k0⟩:=h0
 obtain ⟨n1,k1⟩:=h1
 obtain ⟨n2,k2⟩:=h2
 obtain ⟨⟨r0,s0,l0,g0⟩,_⟩:=cells_of 8 26 _ _ _ _ sh26 k0
 obtain ⟨⟨r1,s1,l1,g1⟩,_⟩:=cells_of 8 27 _ _ _ _ sh27 k1
 obtain ⟨⟨r2,s2,l2,g2⟩,_⟩:=cells_of 8 29 _ _ _ _ sh29 k2
 obtain ⟨t,rfl,hN⟩:=Vn.of_VaTrain r0 s0
 obtain ⟨a,rfl⟩:=Vn.of_Asked r2 s2
 obtain ⟨pl,rfl⟩:∃pl:List Int,r1 = [.seq 1 (pl.map cI)]:= by
  rw [SatL] at s1; obtain ⟨x,q1,rfl,hx,hq⟩:=s1
  rw [SatL] at hq; subst hq
  simp only [Sat] at hx
  obtain ⟨rows,rfl,_,hr⟩:=hx
  obtain ⟨xs,rfl,_,_⟩:=Vn.sat_rows Vn.of_Int rows hr
  exact ⟨xs,rfl⟩
 have hlt:∀x ∈ p0++p1++p2,x.block < W.heap.size:=fun x hx=>by simpa using hW'.lt x (by simpa using hx)
 refine (law_callsV (Checked.mixed Try.checked) tabOk (vanTimes_run t hN pl a) W (vs:=#[.agg c0,.slice a1 len1 cap1,.agg c2]) rfl (fun j x hj=>?_)).mono fun e W' ⟨he,hB⟩=>?_
 ·match j with
  | 0 =>
   obtain rfl:_ = x:=Option.some.inj hj
   have:=Vn.V_cells (g:=⟨fun _=>.none,fun β o=>W.cell? ⟨β,o,none⟩⟩) l0 g0
   exact this
  | 1 =>
   obtain rfl:_ = x:=Option.some.inj hj
   obtain ⟨v,hv,hd,_⟩:=g1 0 _ rfl
   have hv:some (Value.slice a1 len1 cap1) = some v:=hv
   obtain rfl:=Option.some.inj hv
   exact .den _ _ hd
  | 2 =>
   obtain rfl:_ = x:=Option.some.inj hj
   have:=Vn.V_cells (g:=⟨fun _=>.none,fun β o=>W.cell? ⟨β,o,none⟩⟩) l2 g2
   exact this
  | j + 3=>simp at hj
 subst he
 refine ⟨_,rfl,_,_,_,[],p0++p1++p2,[],hW',?_,?_,?_,hB.frame _,fun h=>by cases h⟩
 ·exact trodAll_mk1 (shut_bool Try.underlying4 true)
 ·rw [List.append_assoc]; exact trodAll_mk3 (Below.trod laidOut (by kernel_rfl) (of_decide_eq_true (by kernel_rfl)) ⟨n0,k0⟩ hB fun x hx=>hlt x (by simp [hx])) (Below.trod laidOut (by kernel_rfl) (of_decide_eq_true (by kernel_rfl)) ⟨n1,k1⟩ hB fun x hx=>hlt x (by simp [hx])) (Below.trod laidOut (by kernel_rfl) (of_decide_eq_true (by kernel_rfl)) ⟨n2,k2⟩ hB fun x hx=>hlt x (by simp [hx]))
 ·rfl
theorem vanTimes_holds:Rows.VanTimesSaid :=
 OpenClaim.holds_of_wide 3 Try.f3 rfl rfl rfl rfl rfl rfl rfl ⟨rfl,rfl,rfl,rfl,rfl⟩ rfl rfl rfl rfl rfl (by kernel_rfl) Try.func3 (by kernel_rfl)
  (of_decide_eq_true (by kernel_rfl)) (by unfold Func.isWrapper; first | (rw [if_pos (by decide +kernel)]; kernel_rfl) | (rw [if_neg (by decide +kernel)]; exact ⟨rfl,rfl⟩))
  (fun os started H enc _=>vanTimes_lifted os started H enc)
end Go.Proofs.Ytjjmechghfjbmaa
end
