/- DressWho returns true: Who names the persons figures of every cheapest plan. No condition: for every room, turns and number, and every world that the row admits. -/
import Derived.Test.YtdkflofgolehkaaA7
import Derived.Test.YtdkflofgolehkaaRows
import Derived.ProofKit
import Derived.Carry
set_option linter.unusedVariables false
set_option linter.unusedSimpArgs false
set_option linter.unnecessarySimpa false
section
namespace Go.Proofs.Ytdkflofgolehkaa
open Go.ChangeShapes Go.WideShapes Go.ChangeAt Go.RowKit Am
theorem own:ownKnob Try.prog.godebug = none:= by kernel_rfl
theorem laidOut:laidOutB Try.prog = true:= by kernel_rfl
theorem dressWho_run (x0:Ds.DrRoom) (q0:Ds.NB x0) (x1:List Int) (q1:Ds.N8 x1) (x2:Int) (q2:0≤x2∧x2 < 256):G5 Cd.tab ⟨0,[]⟩ [] (.fn (.func 9) [] []) [.agg (Ds.A4 x0),.seq 1 (x1.map B0s),.lit (.int .u8 x2)] [.b true] [] :=
 (Ds.B2w (c:=⟨0,[]⟩) (H:=[]) rfl (Ds.B9d q0 q1 q2)).1
theorem sh_0:B4d Try.prog 8 25 = some (Ds.B4e:List Sh):= by kernel_rfl
theorem sh_1:B4d Try.prog 8 48 = some ([.seq 1 [.int .u8]]:List Sh):= by kernel_rfl
theorem sh_2:B4d Try.prog 8 5 = some ([.int .u8]:List Sh):= by kernel_rfl
set_option maxRecDepth 100000 in
theorem dressWho_lifted (os:Os) (started:os.Started) (H:Type) (enc:TypeId × Value→H) :
  ReturnsInHanded {} Try.checked os 9 .any (Rows.dressWhoSpec.pre6 enc Try.prog Try.f9 Rows.dressWhoRow.domain false) (Rows.dressWhoSpec.post enc Try.prog Try.f9 false true false false):= by
 refine returnsInHanded_of_change (C:=Try.checked) own started (by kernel_rfl) Try.func9
  (ChangeSpec.witness6 (enc:=enc) (C:=Try.checked) false ⟨#[],#[.agg #[.slice none 0 0,.slice none 0 0,.slice none 0 0,.slice none 0 0],.slice none 0 0,.int .u8 0],[]⟩ 8 (by kernel_rfl) (by kernel_rfl) (by kernel_rfl) (by kernel_rfl)) ?_
 intro W base args ds gs before hval0 hW hcnd _
 have hW':=hW
 obtain ⟨p,q,hA0,hV,rfl,hfz,hnd⟩:=hW
 have hA:DataW.TrodAll enc Try.prog W 0 (fun _=>true) true [25,48,5] args.toList ds p:=hA0
 obtain ⟨v0,v1,v2,d0,d1,d2,p0,p1,p2,rfl,rfl,rfl,h0,h1,h2⟩:=trodAll_three hA
 obtain ⟨rfl,rfl⟩:=trodVars_none hV
 obtain ⟨fs0,hu0⟩:∃fs,Try.prog.underlying 25 = some (.struct fs):=⟨_,Try.underlying25⟩
 obtain ⟨c0,rfl,hc0⟩:=okWide_struct hu0 (hval0 0 25 v0 rfl rfl)
 obtain ⟨a1,len1,cap1,rfl⟩:=okWide_slice Try.underlying48 (hval0 1 48 v1 rfl rfl)
 obtain ⟨y2,rfl⟩:=okWide_int Try.underlying5 (hval0 2 5 v2 rfl rfl)
 obtain ⟨n0,k0⟩:=h0
 obtain ⟨n1,k1⟩:=h1
 obtain ⟨n2,k2⟩:=h2
 obtain ⟨⟨r0,s0,l0,g0⟩,_⟩:=A1o 8 25 _ _ _ _ sh_0 k0
 obtain ⟨⟨r1,s1,l1,g1⟩,_⟩:=A1o 8 48 _ _ _ _ sh_1 k1
 obtain ⟨⟨r2,s2,l2,g2⟩,_⟩:=A1o 8 5 _ _ _ _ sh_2 k2
 obtain ⟨x0,rfl,q0⟩:=Ds.A9w r0 s0
 obtain ⟨x1,rfl,q1⟩:=Ds.D7m r1 s1
 obtain ⟨x2,rfl,q2⟩:=Ds.D6h r2 s2
 have hlt:∀x ∈ p0++p1++p2,x.block < W.heap.size:=fun x hx=>by simpa using hW'.lt x (by simpa using hx)
 have hG:B6h fun β o=>W.cell? ⟨β,o,none⟩:=fun i j x h=>by simp [A5k] at h
 refine (A7i (Checked.mixed Try.checked) C86 (dressWho_run x0 q0 x1 q1 x2 q2) W hG (vs:=#[.agg c0,.slice a1 len1 cap1,.int .u8 y2]) rfl (fun j x hj=>?_)).mono fun e W' ⟨he,hB⟩=>?_
 ·match j with
  | 0 =>
   obtain rfl:_ = x:=Option.some.inj hj
   have:=Ds.B1l (g:=⟨fun _=>.none,fun β o=>W.cell? ⟨β,o,none⟩,hG⟩) l0 g0
   exact this
  | 1 =>
   obtain rfl:_ = x:=Option.some.inj hj
   obtain ⟨v,hv,hd,_⟩:=g1 0 _ rfl
   have hv:some (Value.slice a1 len1 cap1) = some v:=hv
   obtain rfl:=Option.some.inj hv
   exact .den _ _ hd
  | 2 =>
   obtain rfl:_ = x:=Option.some.inj hj
   obtain ⟨v,hv,hd,_⟩:=g2 0 _ rfl
   obtain rfl:=Option.some.inj hv
   exact .den _ _ hd
  | j + 3=>simp at hj
 subst he
 refine ⟨_,rfl,_,_,_,[],p0++p1++p2,[],hW',?_,?_,?_,hB.frame _,fun h=>by cases h⟩
 ·exact trodAll_mk1 (shut_bool Try.underlying4 true)
 ·rw [List.append_assoc]; exact trodAll_mk3 (Below.trod laidOut (by kernel_rfl) (of_decide_eq_true (by kernel_rfl)) ⟨n0,k0⟩ hB fun x hx=>hlt x (by simp [hx])) (Below.trod laidOut (by kernel_rfl) (of_decide_eq_true (by kernel_rfl)) ⟨n1,k1⟩ hB fun x hx=>hlt x (by simp [hx])) (Below.trod laidOut (by kernel_rfl) (of_decide_eq_true (by kernel_rfl)) ⟨n2,k2⟩ hB fun x hx=>hlt x (by simp [hx]))
 ·rfl
theorem dressWho_holds:Rows.DressWhoSaid :=
 OpenClaim.holds_of_wide 9 Try.f9 rfl rfl rfl rfl rfl rfl rfl ⟨rfl,rfl,rfl,rfl,rfl⟩ rfl rfl rfl rfl rfl (by kernel_rfl) Try.func9 (by kernel_rfl)
  (of_decide_eq_true (by kernel_rfl)) (by unfold Func.isWrapper; first | (rw [if_pos (by decide +kernel)]; kernel_rfl) | (rw [if_neg (by decide +kernel)]; exact ⟨rfl,rfl⟩))
  (fun os started H enc _=>dressWho_lifted os started H enc)
end Go.Proofs.Ytdkflofgolehkaa
end
