/- RoomMost returns true: no plan that is allowed shows what is worth more, or as much and comes before; a figure of Never is in no such plan, all others are in one. No condition: for every house, plan by turns and figure by a number, and every world that the row admits. -/
import Derived.Test.YtbheamjhjgoccaaDoorA8
import Derived.Test.YtbheamjhjgoccaaDoorRows
import Derived.ProofKit
import Derived.Carry
import Derived.LaidMore
import Derived.OpenShut
import Derived.Stop.Joined
import Derived.SevenTiedAt
import Derived.Test.YtbheamjhjgoccaaDoorCards
import Derived.Test.YtbheamjhjgoccaaDoorTie
set_option linter.unusedVariables false
set_option linter.unusedSimpArgs false
set_option linter.unnecessarySimpa false
section
namespace Go.Proofs.YtbheamjhjgoccaaDoor
open Go.ChangeShapes Go.WideShapes Go.ChangeAt Go.RowKit Am
theorem own:ownKnob Tryd.prog.godebug = none:= by kernel_rfl
theorem laidOut:laidOutB Tryd.prog = true:= by kernel_rfl
theorem roomMost_run (x0:Rm.RoHouse) (q0:Rm.NB x0) (x1:List Int) (q1:Rm.N8 x1) (x2:Int) (q2:0≤x2∧x2 < 256):U3 Cd.tab ⟨0,[]⟩ [] (.fn (.func 9) [] []) [.agg (Rm.A3 x0),.seq 1 (x1.map Z5),.lit (.int .u8 x2)] [.b true] [] :=
 (Rm.B5p (c:=⟨0,[]⟩) (H:=[]) rfl (Rm.C2j q0 q1 q2)).1
theorem sh_0:C7t Tryd.prog 8 28 = some (Rm.C5l:List Sh):= by kernel_rfl
theorem sh_1:C7t Tryd.prog 8 57 = some ([.seq 1 [.int .u8]]:List Sh):= by kernel_rfl
theorem sh_2:C7t Tryd.prog 8 5 = some ([.int .u8]:List Sh):= by kernel_rfl
set_option maxRecDepth 100000 in
theorem roomMost_lifted (os:Os) (started:os.Started) (H:Type) (enc:TypeId × Value→H) :
  ReturnsInHanded {} Tryd.checked os 9 .any (fun w args=>(Rows.roomMostSpec.pre enc Tryd.prog Tryd.f9 [] false w args∧laidMetH Tryd.prog C6u w)∧sizedMet enc Tryd.prog Tryd.f9 (OpenSpec.ofChange Rows.roomMostSpec) false w args) (Rows.roomMostSpec.post enc Tryd.prog Tryd.f9 false true false false):= by
 refine returnsInHanded_of_change_and (C:=Tryd.checked) (X:=fun w _=>laidMetH Tryd.prog C6u w) (fun _ _ _ hh h=>h.of_heap hh) own started (by kernel_rfl) Tryd.func9
  (ChangeSpec.witness_shaped (enc:=enc) (C:=Tryd.checked) (os:=os) (X:=fun w _=>laidMetH Tryd.prog C6u w) false (World.doorLaid Tryd.prog 400 os) #[.agg #[.int .i64 0,.int .i64 0,.int .i64 0,.slice none 0 0,.slice none 0 0,.slice none 0 0,.slice none 0 0],.slice none 0 0,.int .u8 0] 8 rfl (World.shaped_of_RefB (by kernel_rfl) (by kernel_rfl)) (by kernel_rfl) (by kernel_rfl) (by kernel_rfl) (D3q os _)) ?_
 intro W base args ds gs before hval0 hW _ _ hL _
 have hW':=hW
 obtain ⟨p,q,hA0,hV,rfl,hfz,hnd⟩:=hW
 have hA:DataW.TrodAll enc Tryd.prog W 0 (fun _=>true) true [28,57,5] args.toList ds p:=hA0
 obtain ⟨v0,v1,v2,d0,d1,d2,p0,p1,p2,rfl,rfl,rfl,h0,h1,h2⟩:=trodAll_three hA
 obtain ⟨rfl,rfl⟩:=trodVars_none hV
 obtain ⟨fs0,hu0⟩:∃fs,Tryd.prog.underlying 28 = some (.struct fs):=⟨_,Tryd.underlying28⟩
 obtain ⟨c0,rfl,hc0⟩:=okWide_struct hu0 (hval0 0 28 v0 rfl rfl)
 obtain ⟨a1,len1,cap1,rfl⟩:=okWide_slice Tryd.underlying57 (hval0 1 57 v1 rfl rfl)
 obtain ⟨y2,rfl⟩:=okWide_int Tryd.underlying5 (hval0 2 5 v2 rfl rfl)
 obtain ⟨n0,k0⟩:=h0
 obtain ⟨n1,k1⟩:=h1
 obtain ⟨n2,k2⟩:=h2
 obtain ⟨⟨r0,s0,l0,g0⟩,_⟩:=B1v 8 28 _ _ _ _ sh_0 k0
 obtain ⟨⟨r1,s1,l1,g1⟩,_⟩:=B1v 8 57 _ _ _ _ sh_1 k1
 obtain ⟨⟨r2,s2,l2,g2⟩,_⟩:=B1v 8 5 _ _ _ _ sh_2 k2
 obtain ⟨x0,rfl,q0⟩:=Rm.C8z r0 s0
 obtain ⟨x1,rfl,q1⟩:=Rm.D8x r1 s1
 obtain ⟨x2,rfl,q2⟩:=Rm.D7x r2 s2
 have hlt:∀x ∈ p0++p1++p2,x.block < W.heap.size:=fun x hx=>by simpa using hW'.lt x (by simpa using hx)
 have hG:C4g fun β o=>W.cell? ⟨β,o,none⟩:=E14 hL
 refine (C8s (Checked.mixed Tryd.checked) E06 (roomMost_run x0 q0 x1 q1 x2 q2) W hG (vs:=#[.agg c0,.slice a1 len1 cap1,.int .u8 y2]) rfl (fun j x hj=>?_)).mono fun e W' ⟨he,hB⟩=>?_
 ·match j with
  | 0 =>
   obtain rfl:_ = x:=Option.some.inj hj
   have:=Rm.D50 (g:=⟨fun _=>.none,fun β o=>W.cell? ⟨β,o,none⟩,hG⟩) l0 g0
   exact this
  | 1 =>
   obtain rfl:_ = x:=Option.some.inj hj
   obtain ⟨v,hv,hd,_⟩:=g1 0 _ rfl
   have hv:some (Value.slice a1 len1 cap1) = some v:=hv
   obtain rfl:=Option.some.inj hv
   exact .den _ _ hd
  | 2 =>
   obtain rfl:_ = x:=Option.some.inj hj
   obtain ⟨v,hv,hd,_⟩:=g2 0 _ rfl
   obtain rfl:=Option.some.inj hv
   exact .den _ _ hd
  | j + 3=>simp at hj
 subst he
 refine ⟨_,rfl,_,_,_,[],p0++p1++p2,[],hW',?_,?_,?_,hB.frame _,fun h=>by cases h⟩
 ·exact trodAll_mk1 (shut_bool Tryd.underlying4 true)
 ·rw [List.append_assoc]; exact trodAll_mk3 (Below.trod laidOut (by kernel_rfl) (of_decide_eq_true (by kernel_rfl)) ⟨n0,k0⟩ hB fun x hx=>hlt x (by simp [hx])) (Below.trod laidOut (by kernel_rfl) (of_decide_eq_true (by kernel_rfl)) ⟨n1,k1⟩ hB fun x hx=>hlt x (by simp [hx])) (Below.trod laidOut (by kernel_rfl) (of_decide_eq_true (by kernel_rfl)) ⟨n2,k2⟩ hB fun x hx=>hlt x (by simp [hx]))
 ·rfl
theorem roomMost_holds:Rows.RoomMostSaid :=
 OpenClaim.holds_of_wide 9 Tryd.f9 rfl rfl rfl rfl rfl rfl rfl ⟨rfl,rfl,rfl,rfl,rfl⟩ rfl rfl rfl rfl rfl (by kernel_rfl) Tryd.func9 (by kernel_rfl)
  (of_decide_eq_true (by kernel_rfl)) (by unfold Func.isWrapper; first | (rw [if_pos (by decide +kernel)]; kernel_rfl) | (rw [if_neg (by decide +kernel)]; exact ⟨rfl,rfl⟩))
  (fun os started H enc _=>roomMost_lifted os started H enc)
theorem roomMostCard_holds:Rows.RoomMostCardSaid :=
 Claim7.holds_tied_plain_at .later [] [.data,.data] true (true,"75c129de1f98bec74c65c363b57acbb209f77f3a824996ec32aa3a29a438dc7c") false
  roomMost_holds (fun _ h=>by cases h) (by kernel_rfl) (fun _ h=>by cases h) roomMost_row_tie rfl ⟨rfl,rfl⟩ (by kernel_rfl) rfl
  (fun f fn hf hfn=>by
   obtain rfl:f = 9:=Option.some.inj ((show Tryd.prog.funcNamed "ceroplast/ceroplastlaw05.RoomMost" = some 9 by kernel_rfl).symm.trans hf) |>.symm
   obtain rfl:fn = Tryd.f9:=(Option.some.inj (Tryd.func9.symm.trans hfn)).symm
   exact ⟨by kernel_rfl,fun j t ht=>by
    rw [Tryd.params9] at ht
    have hm:t ∈ ([28,57,5]:List Nat):= by simpa using Array.mem_of_getElem? ht
    have hall:(([28,57,5]:List Nat).all fun u=>!Tryd.prog.wantsStandIn u) = true:= by kernel_rfl
    exact (show Tryd.prog.wantsStandIn t = false by simpa using List.all_eq_true.1 hall t hm)⟩)
  (by kernel_rfl)
end Go.Proofs.YtbheamjhjgoccaaDoor
end
