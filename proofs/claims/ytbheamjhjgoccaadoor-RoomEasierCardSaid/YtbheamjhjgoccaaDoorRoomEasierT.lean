/- RoomEasier returns true: if joists hold more, figures bear more, the weather is better known, or the bill promises less, no less can be shown; with one more figure no less, either. No condition: for every house and every thing that is easier, and every world that the row admits. -/
import Derived.Test.YtbheamjhjgoccaaDoorA8
import Derived.Test.YtbheamjhjgoccaaDoorRows
import Derived.ProofKit
import Derived.Carry
import Derived.LaidMore
import Derived.OpenShut
import Derived.Stop.Joined
import Derived.SevenTiedAt
import Derived.Test.YtbheamjhjgoccaaDoorCards
import Derived.Test.YtbheamjhjgoccaaDoorTie
set_option linter.unusedVariables false
set_option linter.unusedSimpArgs false
set_option linter.unnecessarySimpa false
section
namespace Go.Proofs.YtbheamjhjgoccaaDoor
open Go.ChangeShapes Go.WideShapes Go.ChangeAt Go.RowKit Am
theorem own:ownKnob Tryd.prog.godebug = none:= by kernel_rfl
theorem laidOut:laidOutB Tryd.prog = true:= by kernel_rfl
theorem roomEasier_run (x0:Rm.RoHouse) (q0:Rm.NB x0) (x1:Rm.law05_Easier) (q1:Rm.EB x1):V4 Cd.tab ⟨0,[]⟩ [] (.fn (.func 13) [] []) [.agg (Rm.A2 x0),.agg (Rm.E8 x1)] [.b true] [] :=
 (Rm.B4e (c:=⟨0,[]⟩) (H:=[]) rfl (Rm.B9m q0 q1)).1
theorem sh_0:D0n Tryd.prog 8 28 = some (Rm.C6n:List Sh):= by kernel_rfl
theorem sh_1:C8r Tryd.prog 8 83 = some (Rm.C2n:List Sh):= by kernel_rfl
set_option maxRecDepth 100000 in
theorem roomEasier_lifted (os:Os) (started:os.Started) (H:Type) (enc:TypeId × Value→H) :
  ReturnsInHanded {} Tryd.checked os 13 .any (fun w args=>(Rows.roomEasierSpec.pre enc Tryd.prog Tryd.f13 [] false w args∧laidMetH Tryd.prog C7s w)∧sizedMet enc Tryd.prog Tryd.f13 (OpenSpec.ofChange Rows.roomEasierSpec) false w args) (Rows.roomEasierSpec.post enc Tryd.prog Tryd.f13 false true false false):= by
 refine returnsInHanded_of_change_and (C:=Tryd.checked) (X:=fun w _=>laidMetH Tryd.prog C7s w) (fun _ _ _ hh h=>h.of_heap hh) own started (by kernel_rfl) Tryd.func13
  (ChangeSpec.witness_shaped (enc:=enc) (C:=Tryd.checked) (os:=os) (X:=fun w _=>laidMetH Tryd.prog C7s w) false (World.doorLaid Tryd.prog 400 os) #[.agg #[.int .i64 0,.int .i64 0,.int .i64 0,.slice none 0 0,.slice none 0 0,.slice none 0 0,.slice none 0 0],.agg #[.int .u8 0,.int .u8 0,.int .u8 0,.int .u8 0,.int .u8 0,.string ⟨#[]⟩,.int .i64 0,.int .i64 0,.int .i64 0,.int .i64 0,.int .i64 0]] 8 rfl (World.shaped_of_RefB (by kernel_rfl) (by kernel_rfl)) (by kernel_rfl) (by kernel_rfl) (by kernel_rfl) (D42 os _)) ?_
 intro W base args ds gs before hval0 hW _ _ hL _
 have hW':=hW
 obtain ⟨p,q,hA0,hV,rfl,hfz,hnd⟩:=hW
 have hA:DataW.TrodAll enc Tryd.prog W 0 (fun _=>true) true [28,83] args.toList ds p:=hA0
 obtain ⟨v0,v1,d0,d1,p0,p1,rfl,rfl,rfl,h0,h1⟩:=trodAll_two hA
 obtain ⟨rfl,rfl⟩:=trodVars_none hV
 obtain ⟨fs0,hu0⟩:∃fs,Tryd.prog.underlying 28 = some (.struct fs):=⟨_,Tryd.underlying28⟩
 obtain ⟨c0,rfl,hc0⟩:=okWide_struct hu0 (hval0 0 28 v0 rfl rfl)
 obtain ⟨fs1,hu1⟩:∃fs,Tryd.prog.underlying 83 = some (.struct fs):=⟨_,Tryd.underlying83⟩
 obtain ⟨c1,rfl,hc1⟩:=okWide_struct hu1 (hval0 1 83 v1 rfl rfl)
 obtain ⟨n0,k0⟩:=h0
 obtain ⟨n1,k1⟩:=h1
 obtain ⟨⟨r0,s0,l0,g0⟩,_⟩:=B5u 8 28 _ _ _ _ sh_0 k0
 obtain ⟨⟨r1,s1,l1,g1⟩,_⟩:=C33 8 83 _ _ _ _ sh_1 k1
 obtain ⟨x0,rfl,q0⟩:=Rm.C92 r0 s0
 obtain ⟨x1,rfl,q1⟩:=Rm.D29 r1 s1
 have hlt:∀x ∈ p0++p1,x.block < W.heap.size:=fun x hx=>by simpa using hW'.lt x (by simpa using hx)
 have hG:C5j fun β o=>W.cell? ⟨β,o,none⟩:=E27 hL
 refine (C9t (Checked.mixed Tryd.checked) E17 (roomEasier_run x0 q0 x1 q1) W hG (vs:=#[.agg c0,.agg c1]) rfl (fun j x hj=>?_)).mono fun e W' ⟨he,hB⟩=>?_
 ·match j with
  | 0 =>
   obtain rfl:_ = x:=Option.some.inj hj
   have:=Rm.D0z (g:=⟨fun _=>.none,fun β o=>W.cell? ⟨β,o,none⟩,hG⟩) l0 g0
   exact this
  | 1 =>
   obtain rfl:_ = x:=Option.some.inj hj
   have:=Rm.D0z (g:=⟨fun _=>.none,fun β o=>W.cell? ⟨β,o,none⟩,hG⟩) l1 g1
   exact this
  | j + 2=>simp at hj
 subst he
 refine ⟨_,rfl,_,_,_,[],p0++p1,[],hW',?_,?_,?_,hB.frame _,fun h=>by cases h⟩
 ·exact trodAll_mk1 (shut_bool Tryd.underlying4 true)
 ·exact trodAll_mk2 (Below.trod laidOut (by kernel_rfl) (of_decide_eq_true (by kernel_rfl)) ⟨n0,k0⟩ hB fun x hx=>hlt x (by simp [hx])) (Below.trod laidOut (by kernel_rfl) (of_decide_eq_true (by kernel_rfl)) ⟨n1,k1⟩ hB fun x hx=>hlt x (by simp [hx]))
 ·rfl
theorem roomEasier_holds:Rows.RoomEasierSaid :=
 OpenClaim.holds_of_wide 13 Tryd.f13 rfl rfl rfl rfl rfl rfl rfl ⟨rfl,rfl,rfl,rfl,rfl⟩ rfl rfl rfl rfl rfl (by kernel_rfl) Tryd.func13 (by kernel_rfl)
  (of_decide_eq_true (by kernel_rfl)) (by unfold Func.isWrapper; first | (rw [if_pos (by decide +kernel)]; kernel_rfl) | (rw [if_neg (by decide +kernel)]; exact ⟨rfl,rfl⟩))
  (fun os started H enc _=>roomEasier_lifted os started H enc)
theorem roomEasierCard_holds:Rows.RoomEasierCardSaid :=
 Claim7.holds_tied_plain_at .later [] [.data,.data] true (true,"75c129de1f98bec74c65c363b57acbb209f77f3a824996ec32aa3a29a438dc7c") false
  roomEasier_holds (fun _ h=>by cases h) (by kernel_rfl) (fun _ h=>by cases h) roomEasier_row_tie rfl ⟨rfl,rfl⟩ (by kernel_rfl) rfl
  (fun f fn hf hfn=>by
   obtain rfl:f = 13:=Option.some.inj ((show Tryd.prog.funcNamed "ceroplast/ceroplastlaw05.RoomEasier" = some 13 by kernel_rfl).symm.trans hf) |>.symm
   obtain rfl:fn = Tryd.f13:=(Option.some.inj (Tryd.func13.symm.trans hfn)).symm
   exact ⟨by kernel_rfl,fun j t ht=>by
    rw [Tryd.params13] at ht
    have hm:t ∈ ([28,83]:List Nat):= by simpa using Array.mem_of_getElem? ht
    have hall:(([28,83]:List Nat).all fun u=>!Tryd.prog.wantsStandIn u) = true:= by kernel_rfl
    exact (show Tryd.prog.wantsStandIn t = false by simpa using List.all_eq_true.1 hall t hm)⟩)
  (by kernel_rfl)
end Go.Proofs.YtbheamjhjgoccaaDoor
end
