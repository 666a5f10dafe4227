/- RoomBreaks returns true: Breaks and Needs return what the reference says. No condition: for every house and figure, and every world that the row admits. -/
import Derived.Test.YtbheamjhjgoccaaDoorA8
import Derived.Test.YtbheamjhjgoccaaDoorRows
import Derived.ProofKit
import Derived.Carry
import Derived.LaidMore
import Derived.OpenShut
import Derived.Stop.Joined
import Derived.SevenTiedAt
import Derived.Test.YtbheamjhjgoccaaDoorCards
import Derived.Test.YtbheamjhjgoccaaDoorTie
set_option linter.unusedVariables false
set_option linter.unusedSimpArgs false
set_option linter.unnecessarySimpa false
section
namespace Go.Proofs.YtbheamjhjgoccaaDoor
open Go.ChangeShapes Go.WideShapes Go.ChangeAt Go.RowKit Am
theorem own:ownKnob Tryd.prog.godebug = none:= by kernel_rfl
theorem laidOut:laidOutB Tryd.prog = true:= by kernel_rfl
theorem roomBreaks_run (x0:Rm.RoHouse) (q0:Rm.NB x0) (x1:Int) (q1:True):U4 Cd.tab ⟨0,[]⟩ [] (.fn (.func 6) [] []) [.agg (Rm.A3 x0),.i x1] [.b true] [] :=
 (Rm.B4o (c:=⟨0,[]⟩) (H:=[]) rfl (Rm.B92 q0 q1)).1
theorem sh_0:C7b Tryd.prog 8 28 = some (Rm.C0l:List Sh):= by kernel_rfl
theorem sh_1:C7b Tryd.prog 8 3 = some ([.int .i64]:List Sh):= by kernel_rfl
set_option maxRecDepth 100000 in
theorem roomBreaks_lifted (os:Os) (started:os.Started) (H:Type) (enc:TypeId × Value→H) :
  ReturnsInHanded {} Tryd.checked os 6 .any (fun w args=>(Rows.roomBreaksSpec.pre enc Tryd.prog Tryd.f6 [] false w args∧laidMetH Tryd.prog B80 w)∧sizedMet enc Tryd.prog Tryd.f6 (OpenSpec.ofChange Rows.roomBreaksSpec) false w args) (Rows.roomBreaksSpec.post enc Tryd.prog Tryd.f6 false true false false):= by
 refine returnsInHanded_of_change_and (C:=Tryd.checked) (X:=fun w _=>laidMetH Tryd.prog B80 w) (fun _ _ _ hh h=>h.of_heap hh) own started (by kernel_rfl) Tryd.func6
  (ChangeSpec.witness_shaped (enc:=enc) (C:=Tryd.checked) (os:=os) (X:=fun w _=>laidMetH Tryd.prog B80 w) false (World.doorLaid Tryd.prog 400 os) #[.agg #[.int .i64 0,.int .i64 0,.int .i64 0,.slice none 0 0,.slice none 0 0,.slice none 0 0,.slice none 0 0],.int .i64 0] 8 rfl (World.shaped_of_RefB (by kernel_rfl) (by kernel_rfl)) (by kernel_rfl) (by kernel_rfl) (by kernel_rfl) (C76 os _)) ?_
 intro W base args ds gs before hval0 hW _ _ hL _
 have hW':=hW
 obtain ⟨p,q,hA0,hV,rfl,hfz,hnd⟩:=hW
 have hA:DataW.TrodAll enc Tryd.prog W 0 (fun _=>true) true [28,3] args.toList ds p:=hA0
 obtain ⟨v0,v1,d0,d1,p0,p1,rfl,rfl,rfl,h0,h1⟩:=trodAll_two hA
 obtain ⟨rfl,rfl⟩:=trodVars_none hV
 obtain ⟨fs0,hu0⟩:∃fs,Tryd.prog.underlying 28 = some (.struct fs):=⟨_,Tryd.underlying28⟩
 obtain ⟨c0,rfl,hc0⟩:=okWide_struct hu0 (hval0 0 28 v0 rfl rfl)
 obtain ⟨y1,rfl⟩:=okWide_int Tryd.underlying3 (hval0 1 3 v1 rfl rfl)
 obtain ⟨n0,k0⟩:=h0
 obtain ⟨n1,k1⟩:=h1
 obtain ⟨⟨r0,s0,l0,g0⟩,_⟩:=B0w 8 28 _ _ _ _ sh_0 k0
 obtain ⟨⟨r1,s1,l1,g1⟩,_⟩:=B0w 8 3 _ _ _ _ sh_1 k1
 obtain ⟨x0,rfl,q0⟩:=Rm.C12 r0 s0
 obtain ⟨x1,rfl,q1⟩:=Rm.D9h r1 s1
 have hlt:∀x ∈ p0++p1,x.block < W.heap.size:=fun x hx=>by simpa using hW'.lt x (by simpa using hx)
 have hG:C3m fun β o=>W.cell? ⟨β,o,none⟩:=E2v hL
 refine (C1o (Checked.mixed Tryd.checked) E0k (roomBreaks_run x0 q0 x1 q1) W hG (vs:=#[.agg c0,.int .i64 y1]) rfl (fun j x hj=>?_)).mono fun e W' ⟨he,hB⟩=>?_
 ·match j with
  | 0 =>
   obtain rfl:_ = x:=Option.some.inj hj
   have:=Rm.D1q (g:=⟨fun _=>.none,fun β o=>W.cell? ⟨β,o,none⟩,hG⟩) l0 g0
   exact this
  | 1 =>
   obtain rfl:_ = x:=Option.some.inj hj
   obtain ⟨v,hv,hd,_⟩:=g1 0 _ rfl
   obtain rfl:=Option.some.inj hv
   exact .den _ _ hd
  | j + 2=>simp at hj
 subst he
 refine ⟨_,rfl,_,_,_,[],p0++p1,[],hW',?_,?_,?_,hB.frame _,fun h=>by cases h⟩
 ·exact trodAll_mk1 (shut_bool Tryd.underlying4 true)
 ·exact trodAll_mk2 (Below.trod laidOut (by kernel_rfl) (of_decide_eq_true (by kernel_rfl)) ⟨n0,k0⟩ hB fun x hx=>hlt x (by simp [hx])) (Below.trod laidOut (by kernel_rfl) (of_decide_eq_true (by kernel_rfl)) ⟨n1,k1⟩ hB fun x hx=>hlt x (by simp [hx]))
 ·rfl
theorem roomBreaks_holds:Rows.RoomBreaksSaid :=
 OpenClaim.holds_of_wide 6 Tryd.f6 rfl rfl rfl rfl rfl rfl rfl ⟨rfl,rfl,rfl,rfl,rfl⟩ rfl rfl rfl rfl rfl (by kernel_rfl) Tryd.func6 (by kernel_rfl)
  (of_decide_eq_true (by kernel_rfl)) (by unfold Func.isWrapper; first | (rw [if_pos (by decide +kernel)]; kernel_rfl) | (rw [if_neg (by decide +kernel)]; exact ⟨rfl,rfl⟩))
  (fun os started H enc _=>roomBreaks_lifted os started H enc)
theorem roomBreaksCard_holds:Rows.RoomBreaksCardSaid :=
 Claim7.holds_tied_plain_at .later [] [.data,.data] true (true,"75c129de1f98bec74c65c363b57acbb209f77f3a824996ec32aa3a29a438dc7c") false
  roomBreaks_holds (fun _ h=>by cases h) (by kernel_rfl) (fun _ h=>by cases h) roomBreaks_row_tie rfl ⟨rfl,rfl⟩ (by kernel_rfl) rfl
  (fun f fn hf hfn=>by
   obtain rfl:f = 6:=Option.some.inj ((show Tryd.prog.funcNamed "ceroplast/ceroplastlaw05.RoomBreaks" = some 6 by kernel_rfl).symm.trans hf) |>.symm
   obtain rfl:fn = Tryd.f6:=(Option.some.inj (Tryd.func6.symm.trans hfn)).symm
   exact ⟨by kernel_rfl,fun j t ht=>by
    rw [Tryd.params6] at ht
    have hm:t ∈ ([28,3]:List Nat):= by simpa using Array.mem_of_getElem? ht
    have hall:(([28,3]:List Nat).all fun u=>!Tryd.prog.wantsStandIn u) = true:= by kernel_rfl
    exact (show Tryd.prog.wantsStandIn t = false by simpa using List.all_eq_true.1 hall t hm)⟩)
  (by kernel_rfl)
end Go.Proofs.YtbheamjhjgoccaaDoor
end
