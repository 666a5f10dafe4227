/- Texts that the claim stands on, one behind another. -/
import Derived.Test.YtdkflofgolehkaaA4
import Derived.Test.YtdkflofgolehkaaChecked
import Derived.KernelRfl
set_option linter.unusedVariables false
set_option linter.unusedSimpArgs false
set_option linter.unnecessarySimpa false
section
set_option maxRecDepth 100000
set_option maxHeartbeats 0
namespace Go.Proofs.Ytdkflofgolehkaa
open Go Am Go.Proofs
theorem m7:B5 Try.prog Try.f7 Cd.a7 = true:= by kernel_rfl
theorem m16:B5 Try.prog Try.f16 Cd.a16 = true:= by kernel_rfl
theorem m18:B5 Try.prog Try.f18 Cd.a18 = true:= by kernel_rfl
theorem m20:B5 Try.prog Try.f20 Cd.a20 = true:= by kernel_rfl
theorem m21:B5 Try.prog Try.f21 Cd.a21 = true:= by kernel_rfl
theorem m22:B5 Try.prog Try.f22 Cd.a22 = true:= by kernel_rfl
theorem m24:B5 Try.prog Try.f24 Cd.a24 = true:= by kernel_rfl
theorem m26:B5 Try.prog Try.f26 Cd.a26 = true:= by kernel_rfl
theorem m28:B5 Try.prog Try.f28 Cd.a28 = true:= by kernel_rfl
theorem m30:B5 Try.prog Try.f30 Cd.a30 = true:= by kernel_rfl
theorem m32:B5 Try.prog Try.f32 Cd.a32 = true:= by kernel_rfl
theorem m34:B5 Try.prog Try.f34 Cd.a34 = true:= by kernel_rfl
theorem m36:B5 Try.prog Try.f36 Cd.a36 = true:= by kernel_rfl
theorem m48:B5 Try.prog Try.f48 Cd.a48 = true:= by kernel_rfl
theorem m49:B5 Try.prog Try.f49 Cd.a49 = true:= by kernel_rfl
theorem m52:B5 Try.prog Try.f52 Cd.a52 = true:= by kernel_rfl
theorem m53:B5 Try.prog Try.f53 Cd.a53 = true:= by kernel_rfl
theorem m57:B5 Try.prog Try.f57 Cd.a57 = true:= by kernel_rfl
theorem m58:B5 Try.prog Try.f58 Cd.a58 = true:= by kernel_rfl
theorem m60:B5 Try.prog Try.f60 Cd.a60 = true:= by kernel_rfl
theorem m61:B5 Try.prog Try.f61 Cd.a61 = true:= by kernel_rfl
theorem m62:B5 Try.prog Try.f62 Cd.a62 = true:= by kernel_rfl
theorem m64:B5 Try.prog Try.f64 Cd.a64 = true:= by kernel_rfl
theorem m65:B5 Try.prog Try.f65 Cd.a65 = true:= by kernel_rfl
theorem m66:B5 Try.prog Try.f66 Cd.a66 = true:= by kernel_rfl
theorem m67:B5 Try.prog Try.f67 Cd.a67 = true:= by kernel_rfl
theorem m69:B5 Try.prog Try.f69 Cd.a69 = true:= by kernel_rfl
theorem m72:B5 Try.prog Try.f72 Cd.a72 = true:= by kernel_rfl
theorem m73:B5 Try.prog Try.f73 Cd.a73 = true:= by kernel_rfl
theorem m74:B5 Try.prog Try.f74 Cd.a74 = true:= by kernel_rfl
theorem m75:B5 Try.prog Try.f75 Cd.a75 = true:= by kernel_rfl
theorem m76:B5 Try.prog Try.f76 Cd.a76 = true:= by kernel_rfl
theorem m77:B5 Try.prog Try.f77 Cd.a77 = true:= by kernel_rfl
theorem m78:B5 Try.prog Try.f78 Cd.a78 = true:= by kernel_rfl
theorem m80:B5 Try.prog Try.f80 Cd.a80 = true:= by kernel_rfl
theorem m81:B5 Try.prog Try.f81 Cd.a81 = true:= by kernel_rfl
theorem m82:B5 Try.prog Try.f82 Cd.a82 = true:= by kernel_rfl
theorem m83:B5 Try.prog Try.f83 Cd.a83 = true:= by kernel_rfl
theorem m84:B5 Try.prog Try.f84 Cd.a84 = true:= by kernel_rfl
theorem m85:B5 Try.prog Try.f85 Cd.a85 = true:= by kernel_rfl
theorem m88:B5 Try.prog Try.f88 Cd.a88 = true:= by kernel_rfl
theorem m89:B5 Try.prog Try.f89 Cd.a89 = true:= by kernel_rfl
theorem m90:B5 Try.prog Try.f90 Cd.a90 = true:= by kernel_rfl
theorem m91:B5 Try.prog Try.f91 Cd.a91 = true:= by kernel_rfl
theorem m92:B5 Try.prog Try.f92 Cd.a92 = true:= by kernel_rfl
theorem m93:B5 Try.prog Try.f93 Cd.a93 = true:= by kernel_rfl
theorem m94:B5 Try.prog Try.f94 Cd.a94 = true:= by kernel_rfl
theorem m95:B5 Try.prog Try.f95 Cd.a95 = true:= by kernel_rfl
theorem m96:B5 Try.prog Try.f96 Cd.a96 = true:= by kernel_rfl
theorem m97:B5 Try.prog Try.f97 Cd.a97 = true:= by kernel_rfl
theorem m98:B5 Try.prog Try.f98 Cd.a98 = true:= by kernel_rfl
theorem m100:B5 Try.prog Try.f100 Cd.a100 = true:= by kernel_rfl
theorem m101:B5 Try.prog Try.f101 Cd.a101 = true:= by kernel_rfl
theorem m102:B5 Try.prog Try.f102 Cd.a102 = true:= by kernel_rfl
theorem m105:B5 Try.prog Try.f105 Cd.a105 = true:= by kernel_rfl
theorem m106:B5 Try.prog Try.f106 Cd.a106 = true:= by kernel_rfl
theorem m107:B5 Try.prog Try.f107 Cd.a107 = true:= by kernel_rfl
theorem m108:B5 Try.prog Try.f108 Cd.a108 = true:= by kernel_rfl
theorem m109:B5 Try.prog Try.f109 Cd.a109 = true:= by kernel_rfl
theorem m110:B5 Try.prog Try.f110 Cd.a110 = true:= by kernel_rfl
theorem m111:B5 Try.prog Try.f111 Cd.a111 = true:= by kernel_rfl
theorem m112:B5 Try.prog Try.f112 Cd.a112 = true:= by kernel_rfl
theorem m113:B5 Try.prog Try.f113 Cd.a113 = true:= by kernel_rfl
theorem m114:B5 Try.prog Try.f114 Cd.a114 = true:= by kernel_rfl
theorem m115:B5 Try.prog Try.f115 Cd.a115 = true:= by kernel_rfl
theorem m116:B5 Try.prog Try.f116 Cd.a116 = true:= by kernel_rfl
theorem m118:B5 Try.prog Try.f118 Cd.a118 = true:= by kernel_rfl
theorem m119:B5 Try.prog Try.f119 Cd.a119 = true:= by kernel_rfl
theorem m120:B5 Try.prog Try.f120 Cd.a120 = true:= by kernel_rfl
theorem m121:B5 Try.prog Try.f121 Cd.a121 = true:= by kernel_rfl
theorem m122:B5 Try.prog Try.f122 Cd.a122 = true:= by kernel_rfl
theorem m123:B5 Try.prog Try.f123 Cd.a123 = true:= by kernel_rfl
theorem C8l:B2w Try.prog Cd.tab:= by
 intro i af h
 unfold Cd.tab at h
 split at h
 ·cases h; exact ⟨Try.f7,Try.func7,m7⟩
 ·cases h; exact ⟨Try.f16,Try.func16,m16⟩
 ·cases h; exact ⟨Try.f18,Try.func18,m18⟩
 ·cases h; exact ⟨Try.f20,Try.func20,m20⟩
 ·cases h; exact ⟨Try.f21,Try.func21,m21⟩
 ·cases h; exact ⟨Try.f22,Try.func22,m22⟩
 ·cases h; exact ⟨Try.f24,Try.func24,m24⟩
 ·cases h; exact ⟨Try.f26,Try.func26,m26⟩
 ·cases h; exact ⟨Try.f28,Try.func28,m28⟩
 ·cases h; exact ⟨Try.f30,Try.func30,m30⟩
 ·cases h; exact ⟨Try.f32,Try.func32,m32⟩
 ·cases h; exact ⟨Try.f34,Try.func34,m34⟩
 ·cases h; exact ⟨Try.f36,Try.func36,m36⟩
 ·cases h; exact ⟨Try.f48,Try.func48,m48⟩
 ·cases h; exact ⟨Try.f49,Try.func49,m49⟩
 ·cases h; exact ⟨Try.f52,Try.func52,m52⟩
 ·cases h; exact ⟨Try.f53,Try.func53,m53⟩
 ·cases h; exact ⟨Try.f57,Try.func57,m57⟩
 ·cases h; exact ⟨Try.f58,Try.func58,m58⟩
 ·cases h; exact ⟨Try.f60,Try.func60,m60⟩
 ·cases h; exact ⟨Try.f61,Try.func61,m61⟩
 ·cases h; exact ⟨Try.f62,Try.func62,m62⟩
 ·cases h; exact ⟨Try.f64,Try.func64,m64⟩
 ·cases h; exact ⟨Try.f65,Try.func65,m65⟩
 ·cases h; exact ⟨Try.f66,Try.func66,m66⟩
 ·cases h; exact ⟨Try.f67,Try.func67,m67⟩
 ·cases h; exact ⟨Try.f69,Try.func69,m69⟩
 ·cases h; exact ⟨Try.f72,Try.func72,m72⟩
 ·cases h; exact ⟨Try.f73,Try.func73,m73⟩
 ·cases h; exact ⟨Try.f74,Try.func74,m74⟩
 ·cases h; exact ⟨Try.f75,Try.func75,m75⟩
 ·cases h; exact ⟨Try.f76,Try.func76,m76⟩
 ·cases h; exact ⟨Try.f77,Try.func77,m77⟩
 ·cases h; exact ⟨Try.f78,Try.func78,m78⟩
 ·cases h; exact ⟨Try.f80,Try.func80,m80⟩
 ·cases h; exact ⟨Try.f81,Try.func81,m81⟩
 ·cases h; exact ⟨Try.f82,Try.func82,m82⟩
 ·cases h; exact ⟨Try.f83,Try.func83,m83⟩
 ·cases h; exact ⟨Try.f84,Try.func84,m84⟩
 ·cases h; exact ⟨Try.f85,Try.func85,m85⟩
 ·cases h; exact ⟨Try.f88,Try.func88,m88⟩
 ·cases h; exact ⟨Try.f89,Try.func89,m89⟩
 ·cases h; exact ⟨Try.f90,Try.func90,m90⟩
 ·cases h; exact ⟨Try.f91,Try.func91,m91⟩
 ·cases h; exact ⟨Try.f92,Try.func92,m92⟩
 ·cases h; exact ⟨Try.f93,Try.func93,m93⟩
 ·cases h; exact ⟨Try.f94,Try.func94,m94⟩
 ·cases h; exact ⟨Try.f95,Try.func95,m95⟩
 ·cases h; exact ⟨Try.f96,Try.func96,m96⟩
 ·cases h; exact ⟨Try.f97,Try.func97,m97⟩
 ·cases h; exact ⟨Try.f98,Try.func98,m98⟩
 ·cases h; exact ⟨Try.f100,Try.func100,m100⟩
 ·cases h; exact ⟨Try.f101,Try.func101,m101⟩
 ·cases h; exact ⟨Try.f102,Try.func102,m102⟩
 ·cases h; exact ⟨Try.f105,Try.func105,m105⟩
 ·cases h; exact ⟨Try.f106,Try.func106,m106⟩
 ·cases h; exact ⟨Try.f107,Try.func107,m107⟩
 ·cases h; exact ⟨Try.f108,Try.func108,m108⟩
 ·cases h; exact ⟨Try.f109,Try.func109,m109⟩
 ·cases h; exact ⟨Try.f110,Try.func110,m110⟩
 ·cases h; exact ⟨Try.f111,Try.func111,m111⟩
 ·cases h; exact ⟨Try.f112,Try.func112,m112⟩
 ·cases h; exact ⟨Try.f113,Try.func113,m113⟩
 ·cases h; exact ⟨Try.f114,Try.func114,m114⟩
 ·cases h; exact ⟨Try.f115,Try.func115,m115⟩
 ·cases h; exact ⟨Try.f116,Try.func116,m116⟩
 ·cases h; exact ⟨Try.f118,Try.func118,m118⟩
 ·cases h; exact ⟨Try.f119,Try.func119,m119⟩
 ·cases h; exact ⟨Try.f120,Try.func120,m120⟩
 ·cases h; exact ⟨Try.f121,Try.func121,m121⟩
 ·cases h; exact ⟨Try.f122,Try.func122,m122⟩
 ·cases h; exact ⟨Try.f123,Try.func123,m123⟩
 ·cases h
end Go.Proofs.Ytdkflofgolehkaa
end
section
set_option maxRecDepth 100000
set_option maxHeartbeats 0
namespace Ds
open Go Am Go.Proofs.Ytdkflofgolehkaa.Cd
structure DrLook where
 mk ::
 (Name:ByteArray)
 (Looks:(List Int))
 (Hair:Int)
 deriving DecidableEq
def A3 (x:DrLook):List AV:=[.s x.Name,(.seq 1 (List.map cI x.Looks)),.i x.Hair]
structure DrRoom where
 mk ::
 (Costs:(List Int))
 (Ounces:(List Int))
 (Figures:(List DrLook))
 (Persons:(List DrLook))
 deriving DecidableEq
def A7 (x:DrRoom):List AV:=[(.seq 1 (List.map cI x.Costs)),(.seq 1 (List.map cI x.Ounces)),(.seq 3 (List.map A3 x.Figures)),(.seq 3 (List.map A3 x.Persons))]
structure dress_pair where
 mk ::
 (figure_:Int)
 (person_:Int)
 deriving DecidableEq
def C3 (x:dress_pair):List AV:=[.i x.figure_,.i x.person_]
structure dress_change where
 mk ::
 (cost_:Int)
 (kinds_:Int)
 (hair_:(Ar4 Int))
 deriving DecidableEq
def B2 (x:dress_change):List AV:=[.i x.cost_,.i x.kinds_,.i x.hair_.x0,.i x.hair_.x1,.i x.hair_.x2,.i x.hair_.x3]
structure dress_room where
 mk ::
 (DrRoom:DrRoom)
 deriving DecidableEq
structure dress_plan where
 mk ::
 (figures_:(List Int))
 (cost_:Int)
 (left_:(Ar4 Int))
 deriving DecidableEq
def A2 (x:dress_plan):List AV:=[(.seq 1 (List.map cI x.figures_)),.i x.cost_,.i x.left_.x0,.i x.left_.x1,.i x.left_.x2,.i x.left_.x3]
structure law09_More where
 mk ::
 (Ounces:Int)
 (Further:DrLook)
 (Person:Int)
 (Kind:Int)
 deriving DecidableEq
structure dress_order where
 mk ::
 deriving DecidableEq
theorem M3:KeyOk (κ:=dress_pair) true [0,0] (fun x=>.agg (C3 x)) C3:=⟨fun _=>rfl,fun _=>rfl,fun a b=>by
 obtain ⟨a1,a2⟩:=a
 obtain ⟨b1,b2⟩:=b
 simp only [C3,B7z,dress_pair.mk.injEq,Bool.decide_and]
 generalize decide (a1 = b1) = p
 generalize decide (a2 = b2) = q
 cases p <;> cases q <;> rfl⟩
def Y9 (a0:Int) (a1:Int) (a2:Int):Option Bool :=
 some ((decide (a0 < a1)) || (decide (a0 > a2)))
theorem A69 {c:Sc} {H:A0} {a0:Int} {a1:Int} {b1:Nat} (hb1:hcells H b1 = some (cI a1)) {a2:Int} {b2:Nat} (hb2:hcells H b2 = some (cI a2)) {r:Bool} (h:Y9 a0 a1 a2 = some r) :
  F2 tab c H (.fn (.func 90) [] []) [.i a0,.ptr b1 0,.ptr b2 0] [.b r]:= by
 unfold Y9 at h
 refine cE rfl rfl<|s0<|qm rfl<|es (ra3 rfl rfl rfl)<|s0<|qm rfl<|A1 (M6 rfl hb1 rfl) rfl<|A1 (L8 rfl rfl) rfl<|qm rfl<|gp 4 12 (.b ((decide (a0 < a1)) || (decide (a0 > a2)))) 8 rfl rfl (fun hg1=>?_) (fun hg1=>?_) ?_
 ·exact nF rfl hg1 rfl<|nF rfl hg1 rfl<|nF rfl hg1 rfl<|A1 (D8 rfl hg1 rfl) rfl<|ge 4 (by rw [hg1]; rfl) rfl rfl
 ·exact gF rfl hg1<|qm rfl<|gF rfl hg1<|A1 (M6 rfl hb2 rfl) rfl<|gF rfl hg1<|A1 (A8t rfl rfl) rfl<|A1 (D7 rfl hg1 rfl) rfl<|ge 4 (by rw [hg1]; rfl) rfl rfl
 refine qm rfl<|es (ra1 rfl)<|D0 ?_
 obtain rfl:=os h
 exact retq trivial (B3 rfl B6) (A8 rfl B9) (A5 A9 B4)
def U2 (a0:(List Int)) (g1:(Int→Option Bool)) (s1:Int):Option (Int ⊕ (Int ⊕ Unit)) :=
 if (decide (s1 < (List.length a0:Int))) = true then
  (idx a0 s1).bind fun x4 =>
  (g1 x4).bind fun x5 =>
  if x5 = true then
  some (.inr (.inl s1))
  else
  some (.inl (w64 (s1 + 1)))
 else
  some (.inr (.inr ()))
def M8 (a0:(List Int)) (g1:(Int→Option Bool)):Option Int :=
 (loop (U2 a0 g1) 0).bind fun (o7:(Int ⊕ Unit)) =>
 match o7 with
 | (.inl vo7_0) =>
  some vo7_0
 | (.inr vo7_1) =>
  some (-1)
theorem U1 {c:Sc} {H:A0} {a0:(List Int)} {g1:Int→Option Bool} {g1_i:Nat} {g1_f g1_c:List AV} (g1_h:Impl tab H g1_i g1_f g1_c g1 (fun y=>[.i y]) (fun y=>[.b y])) {r:Int} (h:M8 a0 g1 = some r) :
  F2 tab c H (.fn (.func 81) [] []) [(.seq 1 (List.map cI a0)),.fn (.func g1_i) g1_f g1_c] [.i r]:= by
 unfold M8 at h
 refine cE rfl rfl<|s0<|qm rfl<|es (ra2 rfl rfl)<|C1<|s0<|qm rfl<|A1 (E6 (f:=cI) rfl) rfl<|qm rfl<|es (ra4 rfl rfl rfl rfl)<|C6<|oB h fun o7 ho7 h=>wl (fun s1=>[(0,(.seq 1 (List.map cI a0))),(1,(.fn (.func g1_i) g1_f g1_c)),(7,(.i (List.length a0:Int))),(8,.i s1)]) (fun (q2:Unit) s1=>[]) 0 (fun r e s' H'=>(match r with | (.inl v)=>e = .ret∧RetQ H [.tmp 4] [.i v] e s' H' | (.inr v)=>PX 0 [] (H++[]) e s' H':Prop)) () ho7 rfl rfl (fun _ _=>rfl) (fun _=>rfl) rfl (fun s1=>(bdc G3 (bdc (C1o g1_h.1) (bdc A9 (bdc A9 bdn))))) (fun q2 s1 ys1 hs1=>?_) ?_
 ·unfold U2 at hs1
  refine s0<|A1 (L8 rfl rfl) rfl<|es (ra5 rfl rfl rfl rfl rfl)<|C1<|wi hs1 rfl (fun hc3 hs1=>?_) fun hc3 hs1=>?_
  ·refine C9<|C1<|C6<|s0<|qm rfl<|qm rfl<|es (ra5 rfl rfl rfl rfl rfl)<|s0<|oB hs1 fun x4 hx4 hs1=>oB hs1 fun x5 hx5 hs1=>qm rfl<|qm rfl<|qm rfl<|A1 (L4 (f:=cI) rfl rfl hx4) rfl<|A1 (S6 rfl rfl) rfl<|C2 (rs:=[.b x5]) rfl rfl (A4 rfl B8) (Impl.call g1_h hx5 _)<|es (ra6 rfl rfl rfl rfl rfl rfl)<|wi hs1 rfl (fun hc6 hs1=>?_) fun hc6 hs1=>?_
   ·refine s0<|qm rfl<|qm rfl<|es (ra1 rfl)<|D0 ?_
    obtain rfl:=os hs1
    exact lx rfl (And.intro rfl (retq trivial (B3 rfl B6) (A8 rfl B9) (A5 A9 B4))) (Sub.refl _)
   ·refine C9<|r0<|A1 (G9 rfl rfl) rfl<|qm rfl<|en (ra4 rfl rfl rfl rfl) ?_
    cases hs1
    exact lnT () rfl (su4 rfl rfl rfl rfl)
  ·refine I5 ?_
   obtain rfl:=os hs1
   exact lx rfl px (.nil _)
 ·rcases o7 with vo7_0 | vo7_1
  ·rintro e s' H' - ⟨rfl,hret⟩
   cases h
   exact hret
  ·rintro e s' H' - ⟨rfl,rfl,rfl⟩
   refine s0<|qm rfl<|es (ra1 rfl)<|D0 ?_
   obtain rfl:=os h
   exact retq trivial (B3 rfl B6) (A8 rfl B9) (A5 A9 B4)
def O1 (a0:(List Int)) (g1:(Int→Option Bool)):Option Bool :=
 (M8 a0 g1).bind fun x1 =>
 some (decide (x1 ≥ 0))
theorem A0g {c:Sc} {H:A0} {a0:(List Int)} {g1:Int→Option Bool} {g1_i:Nat} {g1_f g1_c:List AV} (g1_h:Impl tab H g1_i g1_f g1_c g1 (fun y=>[.i y]) (fun y=>[.b y])) {r:Bool} (h:O1 a0 g1 = some r) :
  F2 tab c H (.fn (.func 89) [] []) [(.seq 1 (List.map cI a0)),.fn (.func g1_i) g1_f g1_c] [.b r]:= by
 unfold O1 at h
 refine cE rfl rfl<|s0<|qm rfl<|es (ra2 rfl rfl)<|s0<|oB h fun x1 hx1 h=>qm rfl<|qm rfl<|C2 (rs:=[.i x1]) rfl rfl (A4 rfl (A4 rfl B8)) ((U1 (Impl.app g1_h _) hx1).frz)<|A1 (A6d rfl rfl) rfl<|qm rfl<|es (ra1 rfl)<|D0 ?_
 obtain rfl:=os h
 exact retq trivial (B3 rfl B6) (A8 rfl B9) (A5 A9 B4)
def K1 (a0:Int) (a1:Int) (a2:(List Int)):Option Bool :=
 (O1 a2 (fun (y:Int)=>Y9 y a0 a1)).bind fun x1 =>
 some x1
theorem J0 {c:Sc} {H:A0} {a0:Int} {a1:Int} {a2:(List Int)} {r:Bool} (h:K1 a0 a1 a2 = some r) :
  F2 tab c H (.fn (.func 53) [] []) [.i a0,.i a1,(.seq 1 (List.map cI a2))] [.b r]:= by
 unfold K1 at h
 refine cE rfl rfl<|sg 0 rfl<|A1 (H8 (cs:=cI a0) rfl rfl rfl) rfl<|A1 (H8 (cs:=cI a1) rfl rfl rfl) rfl<|qm rfl<|es (ra3 rfl rfl rfl)<|s0<|oB h fun x1 hx1 h=>qm rfl<|A1 (A3j rfl rfl) rfl<|C2 (rs:=[.b x1]) rfl rfl (A4 rfl (A4 rfl B8)) ((A0g (show Impl _ _ 90 [] [(.ptr (H.length + 0) 0),(.ptr (H.length + 1) 0)] (fun (y:Int)=>Y9 y a0 a1) (fun (y:Int)=>[.i y]) (fun (y:Bool)=>[.b y]) from ⟨⟨B4,(by rw [List.length_append]; exact (A5 (F3 rfl) (A5 (F3 rfl) B4)))⟩,fun H' hle hag c y r hr=>(A4r (A69 (hag _ _ (D2 rfl)) (hag _ _ (D2 rfl)) hr)).frz⟩) hx1).frz)<|qm rfl<|es (ra1 rfl)<|D0 ?_
 obtain rfl:=os h
 exact retq trivial (B3 rfl B6) (A8 rfl B9) (A5 A9 B4)
def W8 (a0:Int) (a1:Int):Option Bool :=
 (K1 0 a1 [a0]).bind fun x1 =>
 some x1
theorem A5w {c:Sc} {H:A0} {a0:Int} {a1:Int} {b1:Nat} (hb1:hcells H b1 = some (cI a1)) {r:Bool} (h:W8 a0 a1 = some r) :
  F2 tab c H (.fn (.func 82) [] []) [.i a0,.ptr b1 0] [.b r]:= by
 unfold W8 at h
 refine cE rfl rfl<|s0<|qm rfl<|es (ra2 rfl rfl)<|s0<|oB h fun x1 hx1 h=>A1 (M6 rfl hb1 rfl) rfl<|qm rfl<|A1 (I2 (rows:=List.map cI [a0]) rfl rfl (E0 (fun _=>rfl) _)) rfl<|C2 (rs:=[.b x1]) rfl rfl (A4 rfl (A4 rfl (A4 rfl B8))) ((J0 hx1).frz)<|qm rfl<|es (ra1 rfl)<|D0 ?_
 obtain rfl:=os h
 exact retq trivial (B3 rfl B6) (A8 rfl B9) (A5 A9 B4)
def A0k (a0:(List Int)) (a1:Int) (a2:Int):Option (Int × Int) :=
 (K1 1 a1 [(List.length a0:Int)]).bind fun x1 =>
 if x1 = true then
  some (0,3)
 else
  (M8 a0 (fun (y:Int)=>W8 y a2)).bind fun x3 =>
  if (decide (x3 ≥ 0)) = true then
  some (x3,7)
  else
  some (0,0)
theorem A2r {c:Sc} {H:A0} {a0:(List Int)} {a1:Int} {a2:Int} {r:(Int × Int)} (h:A0k a0 a1 a2 = some r) :
  F2 tab c H (.fn (.func 48) [] []) [(.seq 1 (List.map cI a0)),.i a1,.i a2] [.i r.1,.i r.2]:= by
 unfold A0k at h
 refine cE rfl rfl<|sg 0 rfl<|A1 (H8 (cs:=cI a2) rfl rfl rfl) rfl<|qm rfl<|qm rfl<|es (ra3 rfl rfl rfl)<|C1<|s0<|oB h fun x1 hx1 h=>qm rfl<|qm rfl<|A1 (E6 (f:=cI) rfl) rfl<|A1 (I2 (rows:=List.map cI [(List.length a0:Int)]) rfl rfl (E0 (fun _=>rfl) _)) rfl<|C2 (rs:=[.b x1]) rfl rfl (A4 rfl (A4 rfl (A4 rfl B8))) ((J0 hx1).frz)<|es (ra3 rfl rfl rfl)<|wi h rfl (fun hc2 h=>?_) fun hc2 h=>?_
 ·refine s0<|qm rfl<|qm rfl<|es (ra2 rfl rfl)<|D0 ?_
  obtain rfl:=os h
  exact retq trivial (B3 rfl (B3 rfl B6)) (A8 rfl (A8 rfl B9)) (A5 A9 (A5 A9 B4))
 ·refine C9<|C1<|s0<|oB h fun x3 hx3 h=>qm rfl<|A1 (A3j rfl rfl) rfl<|C2 (rs:=[.i x3]) rfl rfl (A4 rfl (A4 rfl B8)) ((U1 (show Impl _ _ 82 [] [(.ptr (H.length + 0) 0)] (fun (y:Int)=>W8 y a2) (fun (y:Int)=>[.i y]) (fun (y:Bool)=>[.b y]) from ⟨⟨B4,(by rw [List.length_append]; exact (A5 (F3 rfl) B4))⟩,fun H' hle hag c y r hr=>(A4r (A5w (hag _ _ (D2 rfl)) hr)).frz⟩) hx3).frz)<|qm rfl<|es (ra1 rfl)<|s0<|qm rfl<|A1 (A6d rfl rfl) rfl<|es (ra2 rfl rfl)<|wi h rfl (fun hc4 h=>?_) fun hc4 h=>?_
  ·refine s0<|qm rfl<|qm rfl<|qm rfl<|es (ra2 rfl rfl)<|D0 ?_
   obtain rfl:=os h
   exact retq trivial (B3 rfl (B3 rfl B6)) (A8 rfl (A8 rfl B9)) (A5 A9 (A5 A9 B4))
  ·refine C9<|s0<|qm rfl<|qm rfl<|es (ra2 rfl rfl)<|D0 ?_
   obtain rfl:=os h
   exact retq trivial (B3 rfl (B3 rfl B6)) (A8 rfl (A8 rfl B9)) (A5 A9 (A5 A9 B4))
def Z0 (a0:DrLook) (a1:DrLook):Option Bool :=
 some (eqS a0.Name a1.Name)
theorem A7a {c:Sc} {H:A0} {a0:DrLook} {a1:DrLook} {b1:Nat} (hb1:hcells H b1 = some (A3 a1)) {r:Bool} (h:Z0 a0 a1 = some r) :
  F2 tab c H (.fn (.func 85) [] []) [(.agg (A3 a0)),.ptr b1 0] [.b r]:= by
 unfold Z0 at h
 refine cE rfl rfl<|sg 0 rfl<|A1 (H8 (cs:=A3 a0) rfl rfl rfl) rfl<|qm rfl<|es (ra2 rfl rfl)<|s0<|A1 (D6 rfl) rfl<|A1 (D5 rfl rfl rfl) rfl<|A1 (D6 rfl) rfl<|A1 (M6 rfl hb1 rfl) rfl<|A1 (C7d rfl rfl) rfl<|qm rfl<|es (ra1 rfl)<|D0 ?_
 obtain rfl:=os h
 exact retq trivial (B3 rfl B6) (A8 rfl B9) (A5 A9 B4)
def A5c (a0:ByteArray) (s1:Nat):Option (Nat ⊕ (Bool ⊕ Nat)) :=
 if (decide (s1 < ByteArray.size a0)) = true then
  if ((!((decide (97≤((Utf8.decode a0 s1).1:Int))) && (decide (((Utf8.decode a0 s1).1:Int)≤122)))) && (((s1:Int) == 0) || ((((Utf8.decode a0 s1).1:Int) != 46) && ((decide (((Utf8.decode a0 s1).1:Int) < 48)) || (decide (((Utf8.decode a0 s1).1:Int) > 57)))))) = true then
  some (.inr (.inl false))
  else
  some (.inl (s1 + (Utf8.decode a0 s1).2))
 else
  some (.inr (.inr s1))
def A5s (a0:ByteArray):Option Bool :=
 (loop (A5c a0) (0:Nat)).bind fun (o10:(Bool ⊕ Nat)) =>
 match o10 with
 | (.inl vo10_0) =>
  some vo10_0
 | (.inr vo10_1) =>
  some ((!eqS a0 (ByteArray.mk #[])) && (decide ((ByteArray.size a0:Int)≤16)))
theorem B2p {c:Sc} {H:A0} {a0:ByteArray} {r:Bool} (h:A5s a0 = some r) :
  F2 tab c H (.fn (.func 83) [] []) [.s a0] [.b r]:= by
 unfold A5s at h
 refine cE rfl rfl<|s0<|qm rfl<|es (ra1 rfl)<|C1<|sg 0 rfl<|qm rfl<|A1 (C4j rfl) rfl<|es (ra2 rfl rfl)<|C6<|oB h fun o10 ho10 h=>wl (fun s1=>[(0,.s a0),(7,(.itr (H.length + 0)))]) (fun (q2:Unit) s1=>[.iter a0 s1]) 1 (fun r e s' H'=>(match r with | (.inl v)=>e = .ret∧RetQ H [.tmp 2] [.b v] e s' H' | (.inr v)=>PX 0 [(0,.s a0)] (H++[.iter a0 v]) e s' H':Prop)) () ho10 rfl rfl (fun _ _=>rfl) (fun _=>rfl) rfl (fun s1=>(bdc A9 (bdc (C5i rfl) bdn))) (fun q2 s1 ys1 hs1=>?_) ?_
 ·unfold A5c at hs1
  by_cases hc3:(decide (s1 < ByteArray.size a0)) = true
  ·rw [if_pos hc3] at hs1
   refine s0<|R8 (C4h rfl rfl (of_decide_eq_true hc3)) rfl<|A1 (A6 rfl rfl) rfl<|es (ra4 rfl rfl rfl rfl)<|C1<|N5 rfl rfl<|C9<|C6<|s0<|A1 (A6 rfl rfl) rfl<|A1 (A6 rfl rfl) rfl<|qm rfl<|qm rfl<|es (ra4 rfl rfl rfl rfl)<|s0<|qm rfl<|A1 (B80 rfl rfl) rfl<|qm rfl<|gp 3 17 (.b ((decide (97≤((Utf8.decode a0 s1).1:Int))) && (decide (((Utf8.decode a0 s1).1:Int)≤122)))) 14 rfl rfl (fun hg4=>?_) (fun hg4=>?_) ?_
   ·exact gT rfl hg4<|qm rfl<|gT rfl hg4<|A1 (B80 rfl rfl) rfl<|A1 (D8 rfl hg4 rfl) rfl<|ge 3 (by rw [hg4]; rfl) rfl rfl
   ·exact nT rfl hg4 rfl<|nT rfl hg4 rfl<|A1 (D7 rfl hg4 rfl) rfl<|ge 3 (by rw [hg4]; rfl) rfl rfl
   refine qm rfl<|es (ra5 rfl rfl rfl rfl rfl)<|s0<|qm rfl<|A1 (A4m rfl) rfl<|qm rfl<|gp 15 35 (.b ((!((decide (97≤((Utf8.decode a0 s1).1:Int))) && (decide (((Utf8.decode a0 s1).1:Int)≤122)))) && (((s1:Int) == 0) || ((((Utf8.decode a0 s1).1:Int) != 46) && ((decide (((Utf8.decode a0 s1).1:Int) < 48)) || (decide (((Utf8.decode a0 s1).1:Int) > 57))))))) 20 rfl rfl (fun hg5=>?_) (fun hg5=>?_) ?_
   ·refine gT rfl hg5<|qm rfl<|gT rfl hg5<|A1 (J3 rfl rfl) rfl<|gT rfl hg5<|qm rfl<|gq 11 34 (.b (((s1:Int) == 0) || ((((Utf8.decode a0 s1).1:Int) != 46) && ((decide (((Utf8.decode a0 s1).1:Int) < 48)) || (decide (((Utf8.decode a0 s1).1:Int) > 57)))))) 23 rfl rfl (fun hg6=>?_) (fun hg6=>?_) ?_
    ·exact nF rfl hg6 rfl<|nF rfl hg6 rfl<|nF rfl hg6 rfl<|nX rfl rfl<|nX rfl rfl<|nX rfl rfl<|nX rfl rfl<|nX rfl rfl<|nX rfl rfl<|nF rfl hg6 rfl<|gT rfl hg5<|A1 (D8 rfl hg6 rfl) rfl<|ge 11 (by rw [hg6]; rfl) rfl rfl
    ·refine gF rfl hg6<|qm rfl<|gF rfl hg6<|A1 (R1 rfl rfl) rfl<|gF rfl hg6<|qm rfl<|gq 7 33 (.b ((((Utf8.decode a0 s1).1:Int) != 46) && ((decide (((Utf8.decode a0 s1).1:Int) < 48)) || (decide (((Utf8.decode a0 s1).1:Int) > 57))))) 26 rfl rfl (fun hg7=>?_) (fun hg7=>?_) ?_
     ·refine gT rfl hg7<|qm rfl<|gT rfl hg7<|A1 (L8 rfl rfl) rfl<|gT rfl hg7<|qm rfl<|gq 3 32 (.b ((decide (((Utf8.decode a0 s1).1:Int) < 48)) || (decide (((Utf8.decode a0 s1).1:Int) > 57)))) 29 rfl rfl (fun hg8=>?_) (fun hg8=>?_) ?_
      ·exact nF rfl hg8 rfl<|nF rfl hg8 rfl<|gT rfl hg7<|A1 (D8 rfl hg8 rfl) rfl<|ge 3 (by rw [hg8]; rfl) rfl rfl
      ·exact gF rfl hg8<|qm rfl<|gF rfl hg8<|A1 (A8t rfl rfl) rfl<|gT rfl hg7<|A1 (D7 rfl hg8 rfl) rfl<|ge 3 (by rw [hg8]; rfl) rfl rfl
      exact gF rfl hg6<|A1 (D8 rfl hg7 rfl) rfl<|ge 5 (by rw [hg7]; rfl) rfl rfl
     ·exact nT rfl hg7 rfl<|nT rfl hg7 rfl<|nT rfl hg7 rfl<|nX rfl rfl<|nX rfl rfl<|nT rfl hg7 rfl<|gF rfl hg6<|A1 (D7 rfl hg7 rfl) rfl<|ge 7 (by rw [hg7]; rfl) rfl rfl
     exact gT rfl hg5<|A1 (D7 rfl hg6 rfl) rfl<|ge 5 (by rw [hg6]; rfl) rfl rfl
    exact A1 (D8 rfl hg5 rfl) rfl<|ge 5 (by rw [hg5]; rfl) rfl rfl
   ·exact nT rfl hg5 rfl<|nT rfl hg5 rfl<|nT rfl hg5 rfl<|nX rfl rfl<|nX rfl rfl<|nX rfl rfl<|nX rfl rfl<|nX rfl rfl<|nX rfl rfl<|nX rfl rfl<|nX rfl rfl<|nX rfl rfl<|nX rfl rfl<|nT rfl hg5 rfl<|A1 (D7 rfl hg5 rfl) rfl<|ge 15 (by rw [hg5]; rfl) rfl rfl
   refine es (ra3 rfl rfl rfl)<|wi hs1 rfl (fun hc9 hs1=>?_) fun hc9 hs1=>?_
   ·refine s0<|qm rfl<|es (ra1 rfl)<|D0 ?_
    obtain rfl:=os hs1
    exact lx rfl (And.intro rfl (retq trivial (B3 rfl B6) (A8 rfl B9) (A5 A9 B4))) (Sub.refl _)
   ·refine C9 ?_
    cases hs1
    exact lnT () rfl (su2 rfl rfl)
  ·rw [if_neg hc3] at hs1
   refine s0<|R8 (C4g rfl rfl (fun hn=>hc3 (decide_eq_true hn))) rfl<|A1 (A6 rfl rfl) rfl<|es (ra4 rfl rfl rfl rfl)<|C1<|T2 rfl rfl<|I5 ?_
   obtain rfl:=os hs1
   exact lx rfl px (su1 rfl)
 ·rcases o10 with vo10_0 | vo10_1
  ·rintro e s' H' - ⟨rfl,hret⟩
   cases h
   exact hret
  ·rintro e s' H' - ⟨rfl,rfl,rfl⟩
   refine s0<|qm rfl<|A1 (C7e rfl rfl) rfl<|qm rfl<|gp 4 42 (.b ((!eqS a0 (ByteArray.mk #[])) && (decide ((ByteArray.size a0:Int)≤16)))) 38 rfl rfl (fun hg11=>?_) (fun hg11=>?_) ?_
   ·exact gT rfl hg11<|qm rfl<|gT rfl hg11<|A1 (C55 rfl) rfl<|gT rfl hg11<|A1 (B80 rfl rfl) rfl<|A1 (D8 rfl hg11 rfl) rfl<|ge 4 (by rw [hg11]; rfl) rfl rfl
   ·exact nT rfl hg11 rfl<|nT rfl hg11 rfl<|nT rfl hg11 rfl<|A1 (D7 rfl hg11 rfl) rfl<|ge 4 (by rw [hg11]; rfl) rfl rfl
   refine qm rfl<|es (ra1 rfl)<|D0 ?_
   obtain rfl:=os h
   exact retq trivial (B3 rfl B6) (A8 rfl B9) (A5 A9 B4)
def L3 (a0:(List DrLook)) (g1:(DrLook→Option Bool)) (s1:Int):Option (Int ⊕ (Int ⊕ Unit)) :=
 if (decide (s1 < (List.length a0:Int))) = true then
  (idx a0 s1).bind fun x4 =>
  (g1 x4).bind fun x5 =>
  if x5 = true then
  some (.inr (.inl s1))
  else
  some (.inl (w64 (s1 + 1)))
 else
  some (.inr (.inr ()))
def I9 (a0:(List DrLook)) (g1:(DrLook→Option Bool)):Option Int :=
 (loop (L3 a0 g1) 0).bind fun (o7:(Int ⊕ Unit)) =>
 match o7 with
 | (.inl vo7_0) =>
  some vo7_0
 | (.inr vo7_1) =>
  some (-1)
theorem T5 {c:Sc} {H:A0} {a0:(List DrLook)} {g1:DrLook→Option Bool} {g1_i:Nat} {g1_f g1_c:List AV} (g1_h:Impl tab H g1_i g1_f g1_c g1 (fun y=>[(.agg (A3 y))]) (fun y=>[.b y])) {r:Int} (h:I9 a0 g1 = some r) :
  F2 tab c H (.fn (.func 102) [] []) [(.seq 3 (List.map A3 a0)),.fn (.func g1_i) g1_f g1_c] [.i r]:= by
 unfold I9 at h
 refine cE rfl rfl<|s0<|qm rfl<|es (ra2 rfl rfl)<|C1<|s0<|qm rfl<|A1 (E6 (f:=A3) rfl) rfl<|qm rfl<|es (ra4 rfl rfl rfl rfl)<|C6<|oB h fun o7 ho7 h=>wl (fun s1=>[(0,(.seq 3 (List.map A3 a0))),(1,(.fn (.func g1_i) g1_f g1_c)),(7,(.i (List.length a0:Int))),(8,.i s1)]) (fun (q2:Unit) s1=>[]) 0 (fun r e s' H'=>(match r with | (.inl v)=>e = .ret∧RetQ H [.tmp 4] [.i v] e s' H' | (.inr v)=>PX 0 [] (H++[]) e s' H':Prop)) () ho7 rfl rfl (fun _ _=>rfl) (fun _=>rfl) rfl (fun s1=>(bdc G3 (bdc (C1o g1_h.1) (bdc A9 (bdc A9 bdn))))) (fun q2 s1 ys1 hs1=>?_) ?_
 ·unfold L3 at hs1
  refine s0<|A1 (L8 rfl rfl) rfl<|es (ra5 rfl rfl rfl rfl rfl)<|C1<|wi hs1 rfl (fun hc3 hs1=>?_) fun hc3 hs1=>?_
  ·refine C9<|C1<|C6<|s0<|qm rfl<|qm rfl<|es (ra5 rfl rfl rfl rfl rfl)<|s0<|oB hs1 fun x4 hx4 hs1=>oB hs1 fun x5 hx5 hs1=>qm rfl<|qm rfl<|qm rfl<|A1 (L4 (f:=A3) rfl rfl hx4) rfl<|A1 (Q0 rfl rfl) rfl<|C2 (rs:=[.b x5]) rfl rfl (A4 (E4 rfl) B8) (Impl.call g1_h hx5 _)<|es (ra6 rfl rfl rfl rfl rfl rfl)<|wi hs1 rfl (fun hc6 hs1=>?_) fun hc6 hs1=>?_
   ·refine s0<|qm rfl<|qm rfl<|es (ra1 rfl)<|D0 ?_
    obtain rfl:=os hs1
    exact lx rfl (And.intro rfl (retq trivial (B3 rfl B6) (A8 rfl B9) (A5 A9 B4))) (Sub.refl _)
   ·refine C9<|r0<|A1 (G9 rfl rfl) rfl<|qm rfl<|en (ra4 rfl rfl rfl rfl) ?_
    cases hs1
    exact lnT () rfl (su4 rfl rfl rfl rfl)
  ·refine I5 ?_
   obtain rfl:=os hs1
   exact lx rfl px (.nil _)
 ·rcases o7 with vo7_0 | vo7_1
  ·rintro e s' H' - ⟨rfl,hret⟩
   cases h
   exact hret
  ·rintro e s' H' - ⟨rfl,rfl,rfl⟩
   refine s0<|qm rfl<|es (ra1 rfl)<|D0 ?_
   obtain rfl:=os h
   exact retq trivial (B3 rfl B6) (A8 rfl B9) (A5 A9 B4)
def H9 (a0:(List DrLook)) (g1:(DrLook→Option Bool)):Option Bool :=
 (I9 a0 g1).bind fun x1 =>
 some (decide (x1 ≥ 0))
theorem R3 {c:Sc} {H:A0} {a0:(List DrLook)} {g1:DrLook→Option Bool} {g1_i:Nat} {g1_f g1_c:List AV} (g1_h:Impl tab H g1_i g1_f g1_c g1 (fun y=>[(.agg (A3 y))]) (fun y=>[.b y])) {r:Bool} (h:H9 a0 g1 = some r) :
  F2 tab c H (.fn (.func 84) [] []) [(.seq 3 (List.map A3 a0)),.fn (.func g1_i) g1_f g1_c] [.b r]:= by
 unfold H9 at h
 refine cE rfl rfl<|s0<|qm rfl<|es (ra2 rfl rfl)<|s0<|oB h fun x1 hx1 h=>qm rfl<|qm rfl<|C2 (rs:=[.i x1]) rfl rfl (A4 rfl (A4 rfl B8)) ((T5 (Impl.app g1_h _) hx1).frz)<|A1 (A6d rfl rfl) rfl<|qm rfl<|es (ra1 rfl)<|D0 ?_
 obtain rfl:=os h
 exact retq trivial (B3 rfl B6) (A8 rfl B9) (A5 A9 B4)
def A3r (a0:DrRoom) (a1:(List DrLook)) (a3:Int) (s2:Int):Option (Int ⊕ ((Int × Int) ⊕ Unit)) :=
 if (decide (s2 < (List.length a1:Int))) = true then
  (idx a1 s2).bind fun x5 =>
  (A5s x5.Name).bind fun x6 =>
  if (!x6) = true then
  some (.inr (.inl (s2,6)))
  else
  (slc a1 0 s2).bind fun x8 =>
  (H9 x8 (fun (y:DrLook)=>Z0 y x5)).bind fun x9 =>
  if x9 = true then
   some (.inr (.inl (s2,5)))
  else
   if ((List.length x5.Looks:Int) != (List.length a0.Costs:Int)) = true then
   some (.inr (.inl (s2,3)))
   else
   (idx x5.Looks 0).bind fun x12 =>
   (K1 a3 (w64 ((List.length a0.Ounces:Int) - 1)) [x12]).bind fun x13 =>
   if x13 = true then
    some (.inr (.inl (s2,4)))
   else
    (slc x5.Looks 1 (List.length x5.Looks:Int)).bind fun x15 =>
    (K1 a3 5 x15).bind fun x16 =>
    (if x16 = true then
    some true
    else
    (K1 0 50 [x5.Hair]).bind fun x18 =>
    some x18).bind fun x19 =>
    if x19 = true then
    some (.inr (.inl (s2,7)))
    else
    some (.inl (w64 (s2 + 1)))
 else
  some (.inr (.inr ()))
def A05 (a0:DrRoom) (a1:(List DrLook)) (a2:Int) (a3:Int):Option (Int × Int) :=
 if (decide ((List.length a1:Int) > a2)) = true then
  some (0,3)
 else
  (loop (A3r a0 a1 a3) 0).bind fun (o21:((Int × Int) ⊕ Unit)) =>
  match o21 with
  | (.inl vo21_0) =>
  some vo21_0
  | (.inr vo21_1) =>
  some (0,0)
theorem A3t {c:Sc} {H:A0} {a0:DrRoom} {a1:(List DrLook)} {a2:Int} {a3:Int} {r:(Int × Int)} (h:A05 a0 a1 a2 a3 = some r) :
  F2 tab c H (.fn (.func 49) [] []) [(.agg (A7 a0)),(.seq 3 (List.map A3 a1)),.i a2,.i a3] [.i r.1,.i r.2]:= by
 unfold A05 at h
 refine cE rfl rfl<|sg 0 rfl<|A1 (H8 (cs:=A7 a0) rfl rfl rfl) rfl<|qm rfl<|qm rfl<|es (ra5 rfl rfl rfl rfl rfl)<|C1<|s0<|qm rfl<|A1 (E6 (f:=A3) rfl) rfl<|qm rfl<|A1 (A8t rfl rfl) rfl<|es (ra5 rfl rfl rfl rfl rfl)<|wi h rfl (fun hc1 h=>?_) fun hc1 h=>?_
 ·refine s0<|qm rfl<|qm rfl<|es (ra2 rfl rfl)<|D0 ?_
  obtain rfl:=os h
  exact retq trivial (B3 rfl (B3 rfl B6)) (A8 rfl (A8 rfl B9)) (A5 A9 (A5 A9 B4))
 ·refine C9<|C1<|s0<|qm rfl<|A1 (E6 (f:=A3) rfl) rfl<|qm rfl<|es (ra7 rfl rfl rfl rfl rfl rfl rfl)<|C6<|oB h fun o21 ho21 h=>wl (fun s2=>[(1,(.seq 3 (List.map A3 a1))),(3,.i a3),(4,(.ptr (H.length + 0) 0)),(9,.i 0),(16,(.seq 3 (List.map A3 a1))),(17,(.i (List.length a1:Int))),(18,.i s2)]) (fun (q3:Unit) s2=>[(.cells (A7 a0))]) 1 (fun r e s' H'=>(match r with | (.inl v)=>e = .ret∧RetQ H [.tmp 8,.tmp 9] [.i v.1,.i v.2] e s' H' | (.inr v)=>PX 0 [] (H++[(.cells (A7 a0))]) e s' H':Prop)) () ho21 rfl rfl (fun _ _=>rfl) (fun _=>rfl) rfl (fun s2=>(bdc G3 (bdc A9 (bdc (F3 rfl) (bdc A9 (bdc G3 (bdc A9 (bdc A9 bdn)))))))) (fun q3 s2 ys2 hs2=>?_) ?_
  ·unfold A3r at hs2
   refine s0<|A1 (L8 rfl rfl) rfl<|es (ra8 rfl rfl rfl rfl rfl rfl rfl rfl)<|C1<|wi hs2 rfl (fun hc4 hs2=>?_) fun hc4 hs2=>?_
   ·refine C9<|C1<|C6<|sg 1 rfl<|oB hs2 fun x5 hx5 hs2=>qm rfl<|A1 (L4 (f:=A3) rfl rfl hx5) rfl<|A1 (Q0 rfl rfl) rfl<|A1 D9 rfl<|qm rfl<|F8 (C4 (ds:=(A3 x5)) rfl rfl rfl rfl (C0 rfl) rfl) rfl<|es (ra9 rfl rfl rfl rfl rfl rfl rfl rfl rfl)<|C1<|C6<|s0<|oB hs2 fun x6 hx6 hs2=>A1 (D6 rfl) rfl<|A1 (D5 rfl rfl rfl) rfl<|C2 (rs:=[.b x6]) rfl rfl (A4 rfl B8) ((B2p hx6).frz)<|A1 (A4m rfl) rfl<|qm rfl<|es (ra10 rfl rfl rfl rfl rfl rfl rfl rfl rfl rfl)<|wi hs2 rfl (fun hc7 hs2=>?_) fun hc7 hs2=>?_
    ·refine r0<|qm rfl<|en (ra8 rfl rfl rfl rfl rfl rfl rfl rfl)<|s0<|qm rfl<|A1 (K3 (v:=(.b true)) rfl rfl rfl) rfl<|es (ra9 rfl rfl rfl rfl rfl rfl rfl rfl rfl)<|N5 rfl rfl<|s0<|qm rfl<|qm rfl<|qm rfl<|qm rfl<|es (ra2 rfl rfl)<|D0 ?_
     obtain rfl:=os hs2
     exact lx rfl (And.intro rfl (retq trivial (B3 rfl (B3 rfl B6)) (A8 rfl (A8 rfl B9)) (A5 A9 (A5 A9 B4)))) (Sub.refl _)
    ·refine s0<|oB hs2 fun x8 hx8 hs2=>oB hs2 fun x9 hx9 hs2=>qm rfl<|qm rfl<|A1 (B1c (f:=A3) rfl rfl rfl hx8) rfl<|A1 (A3j rfl rfl) rfl<|C2 (rs:=[.b x9]) rfl rfl (A4 rfl (A4 rfl B8)) ((R3 (show Impl _ _ 85 [] [(.ptr (H.length + 1) 0)] (fun (y:DrLook)=>Z0 y x5) (fun (y:DrLook)=>[(.agg (A3 y))]) (fun (y:Bool)=>[.b y]) from ⟨⟨B4,(by rw [List.length_append]; exact (A5 (F3 rfl) B4))⟩,fun H' hle hag c y r hr=>(A4r (A7a (hag _ _ (D2 rfl)) hr)).frz⟩) hx9).frz)<|qm rfl<|es (ra10 rfl rfl rfl rfl rfl rfl rfl rfl rfl rfl)<|wi hs2 rfl (fun hc10 hs2=>?_) fun hc10 hs2=>?_
     ·refine r0<|qm rfl<|en (ra8 rfl rfl rfl rfl rfl rfl rfl rfl)<|s0<|qm rfl<|A1 (K3 (v:=(.b true)) rfl rfl rfl) rfl<|es (ra9 rfl rfl rfl rfl rfl rfl rfl rfl rfl)<|N5 rfl rfl<|s0<|qm rfl<|qm rfl<|qm rfl<|qm rfl<|es (ra2 rfl rfl)<|D0 ?_
      obtain rfl:=os hs2
      exact lx rfl (And.intro rfl (retq trivial (B3 rfl (B3 rfl B6)) (A8 rfl (A8 rfl B9)) (A5 A9 (A5 A9 B4)))) (Sub.refl _)
     ·refine s0<|A1 (D6 rfl) rfl<|A1 (D5 rfl rfl rfl) rfl<|A1 (E6 (f:=cI) rfl) rfl<|A1 (D6 rfl) rfl<|A1 (D5 rfl rfl rfl) rfl<|A1 (E6 (f:=cI) rfl) rfl<|A1 (R1 rfl rfl) rfl<|qm rfl<|es (ra10 rfl rfl rfl rfl rfl rfl rfl rfl rfl rfl)<|wi hs2 rfl (fun hc11 hs2=>?_) fun hc11 hs2=>?_
      ·refine r0<|qm rfl<|en (ra8 rfl rfl rfl rfl rfl rfl rfl rfl)<|s0<|qm rfl<|A1 (K3 (v:=(.b true)) rfl rfl rfl) rfl<|es (ra9 rfl rfl rfl rfl rfl rfl rfl rfl rfl)<|N5 rfl rfl<|s0<|qm rfl<|qm rfl<|qm rfl<|qm rfl<|es (ra2 rfl rfl)<|D0 ?_
       obtain rfl:=os hs2
       exact lx rfl (And.intro rfl (retq trivial (B3 rfl (B3 rfl B6)) (A8 rfl (A8 rfl B9)) (A5 A9 (A5 A9 B4)))) (Sub.refl _)
      ·refine s0<|oB hs2 fun x12 hx12 hs2=>oB hs2 fun x13 hx13 hs2=>qm rfl<|A1 (D6 rfl) rfl<|A1 (D5 rfl rfl rfl) rfl<|A1 (E6 (f:=cI) rfl) rfl<|A1 (A1w rfl rfl) rfl<|A1 (D6 rfl) rfl<|A1 (D5 rfl rfl rfl) rfl<|A1 (L4 (f:=cI) rfl rfl hx12) rfl<|A1 (S6 rfl rfl) rfl<|A1 (I2 (rows:=List.map cI [x12]) rfl rfl (E0 (fun _=>rfl) _)) rfl<|C2 (rs:=[.b x13]) rfl rfl (A4 rfl (A4 rfl (A4 rfl B8))) ((J0 hx13).frz)<|qm rfl<|es (ra10 rfl rfl rfl rfl rfl rfl rfl rfl rfl rfl)<|wi hs2 rfl (fun hc14 hs2=>?_) fun hc14 hs2=>?_
       ·refine r0<|qm rfl<|en (ra8 rfl rfl rfl rfl rfl rfl rfl rfl)<|s0<|qm rfl<|A1 (K3 (v:=(.b true)) rfl rfl rfl) rfl<|es (ra9 rfl rfl rfl rfl rfl rfl rfl rfl rfl)<|N5 rfl rfl<|s0<|qm rfl<|qm rfl<|qm rfl<|qm rfl<|es (ra2 rfl rfl)<|D0 ?_
        obtain rfl:=os hs2
        exact lx rfl (And.intro rfl (retq trivial (B3 rfl (B3 rfl B6)) (A8 rfl (A8 rfl B9)) (A5 A9 (A5 A9 B4)))) (Sub.refl _)
       ·refine s0<|oB hs2 fun x15 hx15 hs2=>oB hs2 fun x16 hx16 hs2=>oB hs2 fun x19 hx19 hs2=>qm rfl<|A1 (D6 rfl) rfl<|A1 (D5 rfl rfl rfl) rfl<|A1 (B1c (f:=cI) rfl rfl rfl hx15) rfl<|C2 (rs:=[.b x16]) rfl rfl (A4 rfl (A4 rfl (A4 rfl B8))) ((J0 hx16).frz)<|qm rfl<|gp 5 65 (.b x19) 60 rfl rfl (fun hg17=>?_) (fun hg17=>?_) ?_
        ·obtain rfl:=os (bt hx19 hg17)
         exact nF rfl hg17 rfl<|nF rfl hg17 rfl<|nF rfl hg17 rfl<|S8 (K8 rfl (by rw [hg17]; rfl)) rfl<|A1 (D8 rfl hg17 rfl) rfl<|ge 5 rfl rfl rfl
        ·refine oB (bf hx19 hg17) fun x18 hx18 hx19=>?_
         obtain rfl:=os hx19
         exact gF rfl hg17<|A1 (D6 rfl) rfl<|gF rfl hg17<|A1 (D5 rfl rfl rfl) rfl<|gF rfl hg17<|A1 (I2 (rows:=List.map cI [x5.Hair]) rfl rfl (E0 (fun _=>rfl) _)) rfl<|gF rfl hg17<|C2 (rs:=[.b x18]) rfl rfl (A4 rfl (A4 rfl (A4 rfl B8))) ((J0 hx18).frz)<|A1 (D7 rfl hg17 rfl) rfl<|ge 5 rfl rfl rfl
        refine qm rfl<|es (ra9 rfl rfl rfl rfl rfl rfl rfl rfl rfl)<|wi hs2 rfl (fun hc20 hs2=>?_) fun hc20 hs2=>?_
        ·refine r0<|qm rfl<|en (ra8 rfl rfl rfl rfl rfl rfl rfl rfl)<|s0<|qm rfl<|A1 (K3 (v:=(.b true)) rfl rfl rfl) rfl<|es (ra9 rfl rfl rfl rfl rfl rfl rfl rfl rfl)<|N5 rfl rfl<|s0<|qm rfl<|qm rfl<|qm rfl<|qm rfl<|es (ra2 rfl rfl)<|D0 ?_
         obtain rfl:=os hs2
         exact lx rfl (And.intro rfl (retq trivial (B3 rfl (B3 rfl B6)) (A8 rfl (A8 rfl B9)) (A5 A9 (A5 A9 B4)))) (Sub.refl _)
        ·refine C9<|s0<|qm rfl<|A1 (K3 (v:=(.b false)) rfl rfl rfl) rfl<|es (ra9 rfl rfl rfl rfl rfl rfl rfl rfl rfl)<|T2 rfl rfl<|C9<|r0<|A1 (G9 rfl rfl) rfl<|qm rfl<|en (ra7 rfl rfl rfl rfl rfl rfl rfl) ?_
         cases hs2
         exact lnT () rfl (su7 rfl rfl rfl rfl rfl rfl rfl)
   ·refine I5 ?_
    obtain rfl:=os hs2
    exact lx rfl px (.nil _)
  ·rcases o21 with vo21_0 | vo21_1
   ·rintro e s' H' - ⟨rfl,hret⟩
    cases h
    exact hret
   ·rintro e s' H' - ⟨rfl,rfl,rfl⟩
    refine s0<|qm rfl<|qm rfl<|es (ra2 rfl rfl)<|D0 ?_
    obtain rfl:=os h
    exact retq trivial (B3 rfl (B3 rfl B6)) (A8 rfl (A8 rfl B9)) (A5 A9 (A5 A9 B4))
def L2 (a0:DrRoom):Option (Int × Int × Int) :=
 (A0k a0.Costs 4 100).bind fun x1 =>
 if (x1.2 != 0) = true then
  some (1,x1.1,x1.2)
 else
  (A0k a0.Ounces 4 50).bind fun x3 =>
  if (x3.2 != 0) = true then
  some (2,x3.1,x3.2)
  else
  (A05 a0 a0.Figures 6 0).bind fun x5 =>
  if (x5.2 != 0) = true then
   some (3,x5.1,x5.2)
  else
   (A05 a0 a0.Persons 5 (-1)).bind fun x7 =>
   if (x7.2 != 0) = true then
   some (4,x7.1,x7.2)
   else
   some (0,0,0)
theorem R2 {c:Sc} {H:A0} {a0:DrRoom} {r:(Int × Int × Int)} (h:L2 a0 = some r) :
  F2 tab c H (.fn (.func 16) [] []) [(.agg (A7 a0))] [.i r.1,.i r.2.1,.i r.2.2]:= by
 unfold L2 at h
 refine cE rfl rfl<|sg 0 rfl<|A1 (H8 (cs:=A7 a0) rfl rfl rfl) rfl<|qm rfl<|qm rfl<|qm rfl<|es (ra1 rfl)<|C1<|s0<|oB h fun x1 hx1 h=>A1 (D6 rfl) rfl<|A1 (D5 rfl rfl rfl) rfl<|C2 (rs:=[.i x1.1,.i x1.2]) rfl rfl (A4 rfl (A4 rfl (A4 rfl B8))) ((A2r hx1).frz)<|qm rfl<|A1 (A6 rfl rfl) rfl<|A1 (A6 rfl rfl) rfl<|qm rfl<|qm rfl<|es (ra3 rfl rfl rfl)<|s0<|qm rfl<|A1 (R1 rfl rfl) rfl<|es (ra4 rfl rfl rfl rfl)<|wi h rfl (fun hc2 h=>?_) fun hc2 h=>?_
 ·refine s0<|qm rfl<|qm rfl<|qm rfl<|qm rfl<|qm rfl<|es (ra3 rfl rfl rfl)<|D0 ?_
  obtain rfl:=os h
  exact retq trivial (B3 rfl (B3 rfl (B3 rfl B6))) (A8 rfl (A8 rfl (A8 rfl B9))) (A5 A9 (A5 A9 (A5 A9 B4)))
 ·refine C9<|C1<|s0<|oB h fun x3 hx3 h=>A1 (D6 rfl) rfl<|A1 (D5 rfl rfl rfl) rfl<|C2 (rs:=[.i x3.1,.i x3.2]) rfl rfl (A4 rfl (A4 rfl (A4 rfl B8))) ((A2r hx3).frz)<|qm rfl<|A1 (A6 rfl rfl) rfl<|A1 (A6 rfl rfl) rfl<|qm rfl<|qm rfl<|es (ra3 rfl rfl rfl)<|s0<|qm rfl<|A1 (R1 rfl rfl) rfl<|es (ra4 rfl rfl rfl rfl)<|wi h rfl (fun hc4 h=>?_) fun hc4 h=>?_
  ·refine s0<|qm rfl<|qm rfl<|qm rfl<|qm rfl<|qm rfl<|es (ra3 rfl rfl rfl)<|D0 ?_
   obtain rfl:=os h
   exact retq trivial (B3 rfl (B3 rfl (B3 rfl B6))) (A8 rfl (A8 rfl (A8 rfl B9))) (A5 A9 (A5 A9 (A5 A9 B4)))
  ·refine C9<|C1<|s0<|oB h fun x5 hx5 h=>A1 (C5 rfl rfl rfl) rfl<|A1 (D6 rfl) rfl<|A1 (D5 rfl rfl rfl) rfl<|C2 (rs:=[.i x5.1,.i x5.2]) rfl rfl (A4 (E4 rfl) (A4 rfl (A4 rfl (A4 rfl B8)))) ((A3t hx5).frz)<|qm rfl<|A1 (A6 rfl rfl) rfl<|A1 (A6 rfl rfl) rfl<|qm rfl<|qm rfl<|es (ra3 rfl rfl rfl)<|s0<|qm rfl<|A1 (R1 rfl rfl) rfl<|es (ra4 rfl rfl rfl rfl)<|wi h rfl (fun hc6 h=>?_) fun hc6 h=>?_
   ·refine s0<|qm rfl<|qm rfl<|qm rfl<|qm rfl<|qm rfl<|es (ra3 rfl rfl rfl)<|D0 ?_
    obtain rfl:=os h
    exact retq trivial (B3 rfl (B3 rfl (B3 rfl B6))) (A8 rfl (A8 rfl (A8 rfl B9))) (A5 A9 (A5 A9 (A5 A9 B4)))
   ·refine C9<|C1<|s0<|oB h fun x7 hx7 h=>A1 (C5 rfl rfl rfl) rfl<|A1 (D6 rfl) rfl<|A1 (D5 rfl rfl rfl) rfl<|C2 (rs:=[.i x7.1,.i x7.2]) rfl rfl (A4 (E4 rfl) (A4 rfl (A4 rfl (A4 rfl B8)))) ((A3t hx7).frz)<|qm rfl<|A1 (A6 rfl rfl) rfl<|A1 (A6 rfl rfl) rfl<|qm rfl<|qm rfl<|es (ra2 rfl rfl)<|s0<|qm rfl<|A1 (R1 rfl rfl) rfl<|es (ra3 rfl rfl rfl)<|wi h rfl (fun hc8 h=>?_) fun hc8 h=>?_
    ·refine s0<|qm rfl<|qm rfl<|qm rfl<|qm rfl<|qm rfl<|es (ra3 rfl rfl rfl)<|D0 ?_
     obtain rfl:=os h
     exact retq trivial (B3 rfl (B3 rfl (B3 rfl B6))) (A8 rfl (A8 rfl (A8 rfl B9))) (A5 A9 (A5 A9 (A5 A9 B4)))
    ·refine C9<|s0<|qm rfl<|qm rfl<|qm rfl<|es (ra3 rfl rfl rfl)<|D0 ?_
     obtain rfl:=os h
     exact retq trivial (B3 rfl (B3 rfl (B3 rfl B6))) (A8 rfl (A8 rfl (A8 rfl B9))) (A5 A9 (A5 A9 (A5 A9 B4)))
def A0o (a0:dress_room) (a1:DrLook) (a2:DrLook) (s1:(Int × dress_change)):Option ((Int × dress_change) ⊕ dress_change) :=
 if (decide (s1.1 < (List.length a2.Looks:Int))) = true then
  (idx a2.Looks s1.1).bind fun x4 =>
  (if (x4 == (-1)) = true then
  some true
  else
  (idx a1.Looks s1.1).bind fun x6 =>
  some (x4 == x6)).bind fun x7 =>
  if x7 = true then
  some (.inl ((w64 (s1.1 + 1)),s1.2))
  else
  (idx a0.DrRoom.Costs s1.1).bind fun x9 =>
  (B8r .i64 1 s1.1).bind fun x10 =>
  some (.inl ((w64 (s1.1 + 1)),(dress_change.mk (w64 (s1.2.cost_ + x9)) (orI s1.2.kinds_ x10) s1.2.hair_)))
 else
  some (.inr s1.2)
def N2 (a0:dress_room) (a1:DrLook) (a2:DrLook):Option dress_change :=
 (loop (A0o a0 a1 a2) (0,(dress_change.mk 0 0 (Ar4.mk 0 0 0 0)))).bind fun (o11:dress_change) =>
 if ((B2i o11.kinds_ 1) == 1) = true then
  (idx a1.Looks 0).bind fun x13 =>
  (idx (Ar4.l o11.hair_) x13).bind fun x14 =>
  (idx (Ar4.l o11.hair_) x13).bind fun x15 =>
  (idx a2.Looks 0).bind fun x16 =>
  (idx (Ar4.l (Ar4.set o11.hair_ x13 (w64 (x14 + a1.Hair)))) x16).bind fun x17 =>
  (idx (Ar4.l (Ar4.set o11.hair_ x13 (w64 (x14 + a1.Hair)))) x16).bind fun x18 =>
  some (dress_change.mk o11.cost_ o11.kinds_ (Ar4.set (Ar4.set o11.hair_ x13 (w64 (x14 + a1.Hair))) x16 (w64 (x17 - a2.Hair))))
 else
  some o11
theorem N0 {c:Sc} {H:A0} {a0:dress_room} {m0_4:AV} {b0:Nat} (hb0:hcells H b0 = some [(.seq 1 (List.map cI a0.DrRoom.Costs)),(.seq 1 (List.map cI a0.DrRoom.Ounces)),(.seq 3 (List.map A3 a0.DrRoom.Figures)),(.seq 3 (List.map A3 a0.DrRoom.Persons)),m0_4]) {a1:DrLook} {a2:DrLook} {r:dress_change} (h:N2 a0 a1 a2 = some r) :
  F2 tab c H (.fn (.func 88) [] []) [.ptr b0 0,(.agg (A3 a1)),(.agg (A3 a2))] [(.agg (B2 r))]:= by
 unfold N2 at h
 refine cE rfl rfl<|sg 0 rfl<|A1 (H8 (cs:=A3 a1) rfl rfl rfl) rfl<|A1 (H8 (cs:=A3 a2) rfl rfl rfl) rfl<|A1 D9 rfl<|es (ra4 rfl rfl rfl rfl)<|C1<|s0<|A1 (D6 rfl) rfl<|A1 (D5 rfl rfl rfl) rfl<|A1 (E6 (f:=cI) rfl) rfl<|qm rfl<|es (ra7 rfl rfl rfl rfl rfl rfl rfl)<|C6<|oB h fun o11 ho11 h=>wl (fun s1=>[(0,.ptr b0 0),(4,(.ptr (H.length + 0) 0)),(5,(.ptr (H.length + 1) 0)),(6,(.ptr (H.length + 2) 0)),(10,(.seq 1 (List.map cI a2.Looks))),(11,(.i (List.length a2.Looks:Int))),(12,.i s1.1)]) (fun (q2:Unit) s1=>[(.cells (A3 a1)),(.cells (A3 a2)),(.cells (B2 s1.2))]) 3 (fun r e s' H'=>PX 0 [(4,(.ptr (H.length + 0) 0)),(5,(.ptr (H.length + 1) 0)),(6,(.ptr (H.length + 2) 0))] (H++[(.cells (A3 a1)),(.cells (A3 a2)),(.cells (B2 r))]) e s' H') () ho11 rfl rfl (fun _ _=>rfl) (fun _=>rfl) rfl (fun s1=>(bdc (C3p hb0) (bdc (F3 rfl) (bdc (F3 rfl) (bdc (F3 rfl) (bdc G3 (bdc A9 (bdc A9 bdn)))))))) (fun q2 s1 ys1 hs1=>?_) ?_
 ·unfold A0o at hs1
  refine s0<|A1 (L8 rfl rfl) rfl<|es (ra8 rfl rfl rfl rfl rfl rfl rfl rfl)<|C1<|wi hs1 rfl (fun hc3 hs1=>?_) fun hc3 hs1=>?_
  ·refine C9<|C1<|C6<|s0<|oB hs1 fun x4 hx4 hs1=>qm rfl<|A1 (L4 (f:=cI) rfl rfl hx4) rfl<|A1 (S6 rfl rfl) rfl<|qm rfl<|qm rfl<|es (ra9 rfl rfl rfl rfl rfl rfl rfl rfl rfl)<|C1<|s0<|oB hs1 fun x7 hx7 hs1=>qm rfl<|A1 (J3 rfl rfl) rfl<|qm rfl<|gp 8 27 (.b x7) 19 rfl rfl (fun hg5=>?_) (fun hg5=>?_) ?_
   ·obtain rfl:=os (bt hx7 hg5)
    exact nF rfl hg5 rfl<|nF rfl hg5 rfl<|nF rfl hg5 rfl<|nF rfl hg5 rfl<|nF rfl hg5 rfl<|nF rfl hg5 rfl<|nF rfl hg5 rfl<|A1 (D8 rfl hg5 rfl) rfl<|ge 8 rfl rfl rfl
   ·refine oB (bf hx7 hg5) fun x6 hx6 hx7=>?_
    obtain rfl:=os hx7
    exact gF rfl hg5<|qm rfl<|gF rfl hg5<|A1 (D6 rfl) rfl<|gF rfl hg5<|A1 (D5 rfl rfl rfl) rfl<|gF rfl hg5<|qm rfl<|gF rfl hg5<|A1 (L4 (f:=cI) rfl rfl hx6) rfl<|gF rfl hg5<|A1 (S6 rfl rfl) rfl<|gF rfl hg5<|A1 (J3 rfl rfl) rfl<|A1 (D7 rfl hg5 rfl) rfl<|ge 8 rfl rfl rfl
   refine es (ra9 rfl rfl rfl rfl rfl rfl rfl rfl rfl)<|wi hs1 rfl (fun hc8 hs1=>?_) fun hc8 hs1=>?_
   ·refine I5<|r0<|A1 (G9 rfl rfl) rfl<|qm rfl<|en (ra7 rfl rfl rfl rfl rfl rfl rfl) ?_
    cases hs1
    exact lnT () rfl (su7 rfl rfl rfl rfl rfl rfl rfl)
   ·refine C9<|s0<|oB hs1 fun x9 hx9 hs1=>A1 (D6 rfl) rfl<|A1 (D5 rfl rfl rfl) rfl<|qm rfl<|A1 (V4 rfl rfl) rfl<|A1 (D6 rfl) rfl<|A1 (D6 rfl) rfl<|A1 (M6 (x:=(.seq 1 (List.map cI a0.DrRoom.Costs))) rfl hb0 rfl) rfl<|qm rfl<|A1 (L4 (f:=cI) rfl rfl hx9) rfl<|A1 (S6 rfl rfl) rfl<|A1 (G9 rfl rfl) rfl<|A1 (D6 rfl) rfl<|F8 (C4 (ds:=(B2 (dress_change.mk (w64 (s1.2.cost_ + x9)) s1.2.kinds_ s1.2.hair_))) rfl rfl rfl rfl (C0 rfl) rfl) rfl<|es (ra8 rfl rfl rfl rfl rfl rfl rfl rfl)<|r0<|oB hs1 fun x10 hx10 hs1=>A1 (D6 rfl) rfl<|A1 (D5 rfl rfl rfl) rfl<|qm rfl<|A1 (B6h rfl rfl hx10) rfl<|A1 (K3 (v:=(.i (orI s1.2.kinds_ x10))) rfl rfl rfl) rfl<|A1 (D6 rfl) rfl<|F8 (C4 (ds:=(B2 (dress_change.mk (w64 (s1.2.cost_ + x9)) (orI s1.2.kinds_ x10) s1.2.hair_))) rfl rfl rfl rfl (C0 rfl) rfl) rfl<|en (ra7 rfl rfl rfl rfl rfl rfl rfl)<|r0<|A1 (G9 rfl rfl) rfl<|qm rfl<|en (ra7 rfl rfl rfl rfl rfl rfl rfl) ?_
    cases hs1
    exact lnT () rfl (su7 rfl rfl rfl rfl rfl rfl rfl)
  ·refine I5 ?_
   obtain rfl:=os hs1
   exact lx rfl px (su3 rfl rfl rfl)
 ·rintro e s' H' - ⟨rfl,rfl,rfl⟩
  refine C1<|s0<|A1 (D6 rfl) rfl<|A1 (D5 rfl rfl rfl) rfl<|A1 (K3 (v:=(.i (B2i o11.kinds_ 1))) rfl rfl rfl) rfl<|A1 (J3 rfl rfl) rfl<|es (ra4 rfl rfl rfl rfl)<|wi h rfl (fun hc12 h=>?_) fun hc12 h=>?_
  ·refine s0<|oB h fun x13 hx13 h=>oB h fun x14 hx14 h=>oB h fun x15 hx15 h=>A1 (D6 rfl) rfl<|A1 (D5 rfl rfl rfl) rfl<|A1 (L4 (f:=cI) rfl rfl hx13) rfl<|A1 (S6 rfl rfl) rfl<|A1 (D6 rfl) rfl<|A1 (A2d (e:=Ar4.l o11.hair_) rfl rfl rfl hx14) rfl<|A1 (A4d (f:=cI) (g:=fun n=>(.i n)) (e:=Ar4.l o11.hair_) (fun _=>rfl) rfl (D2 rfl) rfl hx14) rfl<|A1 (D6 rfl) rfl<|A1 (D5 rfl rfl rfl) rfl<|A1 (G9 rfl rfl) rfl<|A1 (D6 rfl) rfl<|A1 (A2d (e:=Ar4.l o11.hair_) rfl rfl rfl hx15) rfl<|F8 (A4e (f:=cI) (e:=Ar4.l o11.hair_) (e2:=Ar4.l (Ar4.set o11.hair_ x13 (w64 (x14 + a1.Hair)))) (z:=(w64 (x14 + a1.Hair))) (ds:=(B2 (dress_change.mk o11.cost_ o11.kinds_ (Ar4.set o11.hair_ x13 (w64 (x14 + a1.Hair)))))) rfl rfl rfl rfl rfl rfl (fun _=>rfl) hx15 (Ar4.set_l hx15) rfl (C0 rfl)) rfl<|es (ra2 rfl rfl)<|r0<|oB h fun x16 hx16 h=>oB h fun x17 hx17 h=>oB h fun x18 hx18 h=>A1 (D6 rfl) rfl<|A1 (D5 rfl rfl rfl) rfl<|A1 (L4 (f:=cI) rfl rfl hx16) rfl<|A1 (S6 rfl rfl) rfl<|A1 (D6 rfl) rfl<|A1 (A2d (e:=Ar4.l (Ar4.set o11.hair_ x13 (w64 (x14 + a1.Hair)))) rfl rfl rfl hx17) rfl<|A1 (A4d (f:=cI) (g:=fun n=>(.i n)) (e:=Ar4.l (Ar4.set o11.hair_ x13 (w64 (x14 + a1.Hair)))) (fun _=>rfl) rfl (D2 rfl) rfl hx17) rfl<|A1 (D6 rfl) rfl<|A1 (D5 rfl rfl rfl) rfl<|A1 (A1w rfl rfl) rfl<|A1 (D6 rfl) rfl<|A1 (A2d (e:=Ar4.l (Ar4.set o11.hair_ x13 (w64 (x14 + a1.Hair)))) rfl rfl rfl hx18) rfl<|F8 (A4e (f:=cI) (e:=Ar4.l (Ar4.set o11.hair_ x13 (w64 (x14 + a1.Hair)))) (e2:=Ar4.l (Ar4.set (Ar4.set o11.hair_ x13 (w64 (x14 + a1.Hair))) x16 (w64 (x17 - a2.Hair)))) (z:=(w64 (x17 - a2.Hair))) (ds:=(B2 (dress_change.mk o11.cost_ o11.kinds_ (Ar4.set (Ar4.set o11.hair_ x13 (w64 (x14 + a1.Hair))) x16 (w64 (x17 - a2.Hair)))))) rfl rfl rfl rfl rfl rfl (fun _=>rfl) hx18 (Ar4.set_l hx18) rfl (C0 rfl)) rfl<|en (ra1 rfl)<|s0<|A1 (C5 rfl rfl rfl) rfl<|F8 (C4 (ds:=(B2 (dress_change.mk o11.cost_ o11.kinds_ (Ar4.set (Ar4.set o11.hair_ x13 (w64 (x14 + a1.Hair))) x16 (w64 (x17 - a2.Hair)))))) rfl rfl rfl rfl (C0 rfl) rfl) rfl<|es (ra1 rfl)<|D0 ?_
   obtain rfl:=os h
   exact retq trivial (L7 (G1 (ds:=B2 (dress_change.mk o11.cost_ o11.kinds_ (Ar4.set (Ar4.set o11.hair_ x13 (w64 (x14 + a1.Hair))) x16 (w64 (x17 - a2.Hair))))) rfl rfl rfl rfl) B6) (A8 (W2 rfl) B9) (A5 (T9 rfl) B4)
  ·refine C9<|s0<|A1 (C5 rfl rfl rfl) rfl<|F8 (C4 (ds:=(B2 o11)) rfl rfl rfl rfl (C0 rfl) rfl) rfl<|es (ra1 rfl)<|D0 ?_
   obtain rfl:=os h
   exact retq trivial (L7 (G1 (ds:=B2 o11) rfl rfl rfl rfl) B6) (A8 (W2 rfl) B9) (A5 (T9 rfl) B4)
def J1 (a0:dress_room):Option Int :=
 (B8r .i64 1 (List.length a0.DrRoom.Persons:Int)).bind fun x1 =>
 some (w64 (x1 - 1))
theorem J6 {c:Sc} {H:A0} {a0:dress_room} {m0_4:AV} {b0:Nat} (hb0:hcells H b0 = some [(.seq 1 (List.map cI a0.DrRoom.Costs)),(.seq 1 (List.map cI a0.DrRoom.Ounces)),(.seq 3 (List.map A3 a0.DrRoom.Figures)),(.seq 3 (List.map A3 a0.DrRoom.Persons)),m0_4]) {r:Int} (h:J1 a0 = some r) :
  F2 tab c H (.fn (.func 62) [] []) [.ptr b0 0] [.i r]:= by
 unfold J1 at h
 refine cE rfl rfl<|s0<|qm rfl<|es (ra1 rfl)<|s0<|oB h fun x1 hx1 h=>qm rfl<|A1 (V4 rfl rfl) rfl<|A1 (D6 rfl) rfl<|A1 (D6 rfl) rfl<|A1 (M6 (x:=(.seq 3 (List.map A3 a0.DrRoom.Persons))) rfl hb0 rfl) rfl<|A1 (E6 (f:=A3) rfl) rfl<|A1 (B6h rfl rfl hx1) rfl<|A1 (A1w rfl rfl) rfl<|qm rfl<|es (ra1 rfl)<|D0 ?_
 obtain rfl:=os h
 exact retq trivial (B3 rfl B6) (A8 rfl B9) (A5 A9 B4)
end Ds
end
section
set_option maxRecDepth 100000
namespace Ds
open Go Am Go.Proofs.Ytdkflofgolehkaa.Cd
def cP (f:AV) (x:dress_plan):List AV:=[f,.i x.cost_,.i x.left_.x0,.i x.left_.x1,.i x.left_.x2,.i x.left_.x3]
def A1g (a2:dress_change) (s1:Int × Ar4 Int):Option ((Int × Ar4 Int) ⊕ Ar4 Int) :=
 if (decide (s1.1 < 4)) = true then
  (idx (Ar4.l a2.hair_) s1.1).bind fun x4 =>
  (idx (Ar4.l s1.2) s1.1).bind fun x5 =>
  some (.inl (w64 (s1.1 + 1),Ar4.set s1.2 s1.1 (w64 (x5 + x4))))
 else
  some (.inr s1.2)
def W9 (a0:dress_plan) (a1:Int) (a2:dress_change):Option dress_plan :=
 (app 8 a0.figures_ [a1]).bind fun x1 =>
 (loop (A1g a2) (0,a0.left_)).bind fun o2 =>
 some ⟨x1,w64 (a0.cost_ + a2.cost_),o2⟩
def B7g (H:A0) (f:AV) (a2:dress_change) (r:dress_plan):List AO:=[.cells (cP (.asl (H.length + 3) r.figures_.length) r),.cells (B2 a2),.cells (cP (.asl (H.length + 3) r.figures_.length) r),.stk 1 (r.figures_.map cI) (X9 H f)]
theorem B97 {c:Sc} {H:A0} {f:AV} {a0 r:dress_plan} {a1:Int} {a2:dress_change} (hs:A2j H 1 f (a0.figures_.map cI)) (hy:Young H f) (h:W9 a0 a1 a2 = some r) :
  F1 tab c H (.fn (.func 92) [] []) [.agg (cP f a0),.i a1,.agg (B2 a2)] [.agg (cP (.asl (H.length + 3) r.figures_.length) r)] (H++B7g H f a2 r):= by
 unfold W9 at h
 refine B5f (aq:=[.agg (cP f a0),.i a1,.agg (B2 a2)]) rfl rfl rfl (A0v ?_)
 refine oB h fun x1 hx1 h=>oB h fun o2 ho2 h=>?_
 obtain rfl:=os h
 refine sg 0 rfl<|A1 (H8 (cs:=cP f a0) rfl rfl rfl) rfl<|A1 (H8 (cs:=B2 a2) rfl rfl rfl) rfl<|A1 D9 rfl<|es (ra4 rfl rfl rfl rfl)<|sg 3 rfl<|A1 (D6 rfl) rfl<|A1 (D5 (x:=f) rfl rfl rfl) rfl<|qm rfl<|A1 (I2 (rows:=List.map cI [a1]) rfl rfl (E0 (fun _=>rfl) _)) rfl<|R8 (C58 (f:=cI) rfl rfl hs.app (Young.app hs hy rfl) (fun b n e=>Nat.lt_of_lt_of_le (hs.lt e) (Nat.le_add_right _ _)) A4i (fun _=>rfl) (fun _=>rfl) rfl rfl hx1) rfl<|A1 (D6 rfl) rfl<|F8 (C4 (ds:=cP (.asl (H.length + 3) x1.length) a0) rfl rfl rfl rfl (N4 (Nat.le_add_right _ _)) rfl) rfl<|es (ra3 rfl rfl rfl) ?_
 have ha:∀L,X9 (H++L) f = X9 H f:=fun L=>by
  rcases hs with ⟨rfl,_⟩ | ⟨b,anc,rfl,hg⟩
  ·rfl
  ·simp only [X9,B0t hg,hg]
 rw [ha]
 refine s0<|A1 (D6 rfl) rfl<|A1 (D5 (x:=.i a0.cost_) rfl rfl rfl) rfl<|A1 (D6 rfl) rfl<|A1 (D5 (x:=.i a2.cost_) rfl rfl rfl) rfl<|A1 (G9 rfl rfl) rfl<|A1 (D6 rfl) rfl<|F8 (C4 (ds:=cP (.asl (H.length + 3) x1.length) ⟨x1,w64 (a0.cost_ + a2.cost_),a0.left_⟩) rfl rfl rfl rfl (C0 rfl) rfl) rfl<|es (ra3 rfl rfl rfl)<|C1<|s0<|A1 (D6 rfl) rfl<|A1 (G1 (ds:=(V1 cI) a2.hair_) rfl rfl rfl rfl) rfl<|qm rfl<|es (ra4 rfl rfl rfl rfl)<|C6<|wl (fun s1=>[(3,(.ptr (H.length + 0) 0)),(6,(.ptr (H.length + 2) 0)),(22,(.agg ((V1 cI) a2.hair_))),(23,.i s1.1)]) (fun (q2:Unit) s1=>[(.cells (cP (.asl (H.length + 3) x1.length) ⟨x1,w64 (a0.cost_ + a2.cost_),s1.2⟩)),(.cells (B2 a2)),(.cells [.seq 1 [],.i 0,.i 0,.i 0,.i 0,.i 0]),.stk 1 (x1.map cI) (X9 H f)]) 4 (fun r e s' H'=>PX 0 [(3,(.ptr (H.length + 0) 0)),(6,(.ptr (H.length + 2) 0))] (H++[(.cells (cP (.asl (H.length + 3) x1.length) ⟨x1,w64 (a0.cost_ + a2.cost_),r⟩)),(.cells (B2 a2)),(.cells [.seq 1 [],.i 0,.i 0,.i 0,.i 0,.i 0]),.stk 1 (x1.map cI) (X9 H f)]) e s' H') () ho2 rfl rfl (fun _ _=>rfl) (fun _=>rfl) rfl (fun s1=>(bdc (F3 rfl) (bdc (F3 rfl) (bdc (T9 rfl) (bdc A9 bdn))))) (fun q2 s1 ys1 hs1=>?_) ?_
 ·unfold A1g at hs1
  refine s0<|A1 (L8 rfl rfl) rfl<|es (ra5 rfl rfl rfl rfl rfl)<|C1<|wi hs1 rfl (fun hc3 hs1=>?_) fun hc3 hs1=>?_
  ·refine C9<|C1<|C6<|s0<|oB hs1 fun x4 hx4 hs1=>oB hs1 fun x5 hx5 hs1=>qm rfl<|A1 (B08 (f:=cI) (g:=fun n=>(.i n)) (e:=Ar4.l a2.hair_) (fun _=>rfl) rfl rfl rfl rfl hx4) rfl<|qm rfl<|qm rfl<|es (ra6 rfl rfl rfl rfl rfl rfl)<|r0<|qm rfl<|A1 (D6 rfl) rfl<|A1 (A2d (e:=Ar4.l s1.2) rfl rfl rfl hx5) rfl<|A1 (A4d (f:=cI) (g:=fun n=>(.i n)) (e:=Ar4.l s1.2) (post:=[]) (fun _=>rfl) rfl (D2 rfl) rfl hx5) rfl<|qm rfl<|A1 (G9 rfl rfl) rfl<|A1 (D6 rfl) rfl<|A1 (A2d (e:=Ar4.l s1.2) rfl rfl rfl hx5) rfl<|F8 (A4e (f:=cI) (e:=Ar4.l s1.2) (e2:=Ar4.l (Ar4.set s1.2 s1.1 (w64 (x5 + x4)))) (z:=(w64 (x5 + x4))) (ds:=cP (.asl (H.length + 3) x1.length) ⟨x1,w64 (a0.cost_ + a2.cost_),Ar4.set s1.2 s1.1 (w64 (x5 + x4))⟩) (post:=[]) rfl rfl rfl rfl rfl rfl (fun _=>rfl) hx5 (Ar4.set_l hx5) rfl (C0 rfl)) rfl<|en (ra4 rfl rfl rfl rfl)<|r0<|A1 (G9 rfl rfl) rfl<|qm rfl<|en (ra4 rfl rfl rfl rfl) ?_
   cases hs1
   exact lnT () rfl (su4 rfl rfl rfl rfl)
  ·refine I5 ?_
   obtain rfl:=os hs1
   exact lx rfl px (su2 rfl rfl)
 ·rintro e s' H' - ⟨rfl,rfl,rfl⟩
  refine s0<|A1 (C5 rfl rfl rfl) rfl<|F8 (C4 (ds:=cP (.asl (H.length + 3) x1.length) ⟨x1,w64 (a0.cost_ + a2.cost_),o2⟩) rfl rfl rfl rfl (N4 (Nat.le_add_right _ _)) rfl) rfl<|es (ra1 rfl)<|D0 ?_
  refine ⟨trivial,L7 (G1 (ds:=cP (.asl (H.length + 3) x1.length) ⟨x1,w64 (a0.cost_ + a2.cost_),o2⟩) rfl rfl rfl rfl) B6,?_⟩
  have hb:bdL H.length [.agg (cP (.asl (H.length + 3) x1.length) ⟨x1,w64 (a0.cost_ + a2.cost_),o2⟩)] = false:= by
   have:Nat.blt (H.length + 3) H.length = false:= by
    cases hb:Nat.blt (H.length + 3) H.length with
    | false=>rfl
    | true=>have:=Nat.le_of_ble_eq_true hb; omega
   simp only [bdL,AV.bd,cP,this,Bool.false_and]
  unfold trunc
  rw [hb]
  rfl
end Ds
end
section
set_option maxRecDepth 100000
namespace Am
open Go
section
variable {T:Tab} {s:B1} {H0:A0} {l:List AO} {c:Sc} {n0:Nat}
theorem C2r {α:Type} {f:α→List AV} {k j o n:Nat} {x y:Opd} {m:List α} {v:AV} {cs ds:List AV} (hd:ev s x = some (.csl (H0.length + j) o k n)) (hx:ev s y = some v) (hl:l[j]? = some (.cells cs)) (hr:rd (H0++l) v k (m.map f)) (hf:∀a,(f a).all AV.frz = true)
  (hle:Nat.ble (o + n * k) cs.length = true) (e:splice cs o ((m.take n).map f).flatten = ds) :
  One T c n0 s (H0++l) (.copy k x y) (.lit (.int .i64 (min m.length n:Nat))) (H0++l.set j (.cells ds)):=⟨0,by
 have h2:Nat.ble (o + min m.length n * k) cs.length = true:=Nat.ble_eq_true_of_le (by
  have:=Nat.le_of_ble_eq_true hle
  have:=Nat.mul_le_mul_right k (Nat.min_le_right m.length n)
  omega)
 have h3:(m.map f).take (min m.length n) = (m.take n).map f:= by
  rw [← List.map_take]; congr 1
  rw [List.take_eq_take_iff]; omega
 simp only [core,prim,hd,hx,hr.1,hr.2,E0 hf,A0r hl,Nat.beq_refl,List.length_map,h2,Bool.and_self,if_true,h3,e,E2]⟩
end
end Am
namespace Ds
open Go Am Go.Proofs.Ytdkflofgolehkaa.Cd
def A03 (t:DrRoom) (m:Nat):List AV:=[(.seq 1 (List.map cI t.Costs)),(.seq 1 (List.map cI t.Ounces)),(.seq 3 (List.map A3 t.Figures)),(.seq 3 (List.map A3 t.Persons)),.mp m]
abbrev Chg:=List (dress_pair × dress_change)
def A44 (ch:Chg):List (AV × AV):=ch.map (kE (fun x=>.agg (C3 x)) (fun x=>.agg (B2 x)))
def A3u (H:A0) (b:Nat) (t:DrRoom) (ch:Chg):Prop:=∃ m,hcells H b = some (A03 t m)∧hmap H m = some (A44 ch)
def chg0:dress_change:=⟨0,0,⟨0,0,0,0⟩⟩
def A16 (ch:Chg) (f p:Int):dress_change:=(kget ch ⟨f,p⟩).getD chg0
theorem B5y {H L:A0} {b:Nat} {es:List (AV × AV)} (h:hmap H b = some es):hmap (H++L) b = some es:= by
 have:b < H.length:= by
  unfold hmap hget at h
  cases e:H[b]? with
  | none=>rw [e] at h; cases h
  | some o=>exact (List.getElem?_eq_some_iff.1 e).1
 unfold hmap hget at h ⊢
 rw [List.getElem?_append_left this]; exact h
theorem A3u.app {H L:A0} {b:Nat} {t:DrRoom} {ch:Chg} (h:A3u H b t ch):A3u (H++L) b t ch:= by
 obtain ⟨m,h1,h2⟩:=h
 exact ⟨m,J7 h1 _,B5y h2⟩
theorem B83 {c:Sc} {H:A0} {b:Nat} {t:DrRoom} {ch:Chg} (h:A3u H b t ch) (f p:Int):F2 tab c H (.fn (.func 93) [] []) [.ptr b 0,.i f,.i p] [.agg (B2 (A16 ch f p))]:= by
 obtain ⟨m,h1,h2⟩:=h
 refine cE rfl rfl<|sg 0 rfl<|A1 D9 rfl<|es (ra4 rfl rfl rfl rfl)<|s0<|qm rfl<|A1 (V4 rfl rfl) rfl<|A1 (D6 rfl) rfl<|A1 (M6 rfl h1 rfl) rfl<|qm rfl<|qm rfl<|A1 (I4 (cs:=C3 ⟨f,p⟩) rfl rfl) rfl<|A1 (C2s M3 rfl (B5y h2) rfl (z:=chg0) rfl) rfl<|F8 (C4 (ds:=B2 (A16 ch f p)) rfl rfl rfl rfl (C0 rfl) rfl) rfl<|es (ra1 rfl)<|D0 ?_
 exact retq trivial (L7 (G1 (ds:=B2 (A16 ch f p)) rfl rfl rfl rfl) B6) (A8 (W2 rfl) B9) (A5 (T9 rfl) B4)
def cpy4 (l:List Int):Ar4 Int:=⟨l.getD 0 0,l.getD 1 0,l.getD 2 0,l.getD 3 0⟩
theorem B7v (f:AV):∀l:List Int,splice [f,.i 0,.i 0,.i 0,.i 0,.i 0] 2 ((l.take 4).map cI).flatten = cP f ⟨[],0,cpy4 l⟩
 | []=>rfl
 | [_]=>rfl
 | [_,_]=>rfl
 | [_,_,_]=>rfl
 | _ :: _ :: _ :: _ :: _=>rfl
def begin0 (t:DrRoom):dress_plan:=⟨[],0,cpy4 t.Ounces⟩
theorem B5c {c:Sc} {H:A0} {b:Nat} {t:DrRoom} {ch:Chg} (h:A3u H b t ch):F1 tab c H (.fn (.func 91) [] []) [.ptr b 0] [.agg (cP (.nils 1) (begin0 t))] H:= by
 obtain ⟨m,h1,h2⟩:=h
 refine B5f (aq:=[.ptr b 0]) rfl rfl rfl (A0v ?_)
 refine sg 0 rfl<|A1 D9 rfl<|es (ra2 rfl rfl)<|s0<|A1 (D6 rfl) rfl<|A1 (C0x (b:=H.length + 0) (cs:=[.nils 1,.i 0,.i 0,.i 0,.i 0,.i 0]) rfl (D2 rfl) rfl) rfl<|qm rfl<|A1 (V4 rfl rfl) rfl<|A1 (D6 rfl) rfl<|A1 (D6 rfl) rfl<|A1 (M6 rfl h1 rfl) rfl<|R8 (C2r (f:=cI) (m:=t.Ounces) (ds:=cP (.nils 1) (begin0 t)) rfl rfl rfl A4i (fun _=>rfl) rfl (B7v _ _)) rfl<|es (ra1 rfl)<|s0<|A1 (C5 rfl rfl rfl) rfl<|F8 (C4 (ds:=cP (.nils 1) (begin0 t)) rfl rfl rfl rfl (N4 (Nat.le_add_right _ _)) rfl) rfl<|es (ra1 rfl)<|D0 ?_
 refine ⟨trivial,L7 (G1 (ds:=cP (.nils 1) (begin0 t)) rfl rfl rfl rfl) B6,?_⟩
 unfold trunc
 have hb:bdL H.length [.agg (cP (.nils 1) (begin0 t))] = true:= by simp only [bdL,AV.bd,cP,Bool.and_self]
 rw [hb]
 simp
end Ds
end
section
set_option maxRecDepth 100000
namespace Am
open Go
def A3v (N:Nat) (L:A0) (f:AV) (rows:List (List AV)):Prop :=
 (f = .nils 1∧rows = [])∨∃ j anc,f = .asl (N + j) rows.length∧L[j]? = some (.stk 1 rows anc)∧((L.drop (j + 1)).all fun o=>!o.isS) = true
theorem A3v.shr {H L:A0} {f:AV} {rows:List (List AV)} (h:A3v H.length L f rows):A2j (H++L) 1 f rows:= by
 rcases h with h | ⟨j,anc,e,h,_⟩
 ·exact .inl h
 ·exact .inr ⟨_,anc,e,by rw [K0]; exact h⟩
theorem C0v {o:AO} (h:o.isS = false) (b:Nat):o.grew b = false:= by
 cases o with
 | stk=>cases h
 | ro o=>cases o <;> first | rfl | cases h
 | _=>rfl
theorem A3v.young {H L:A0} {f:AV} {rows:List (List AV)} (h:A3v H.length L f rows):Young (H++L) f:= by
 intro b n e
 rcases h with ⟨rfl,_⟩ | ⟨j,anc,rfl,_,h⟩
 ·cases e
 ·cases e
  rw [show H.length + j + 1 = H.length + (j + 1) by omega,← List.drop_drop,List.drop_left]
  rw [List.all_eq_true] at h ⊢
  intro o ho
  have:=h o ho
  rw [C0v (by simpa using this)]; rfl
theorem B9a {N:Nat} {L M:A0} (h:grL N L = true) (k:grL N M = true):grL N (L++M) = true:= by
 unfold grL at h k ⊢
 rw [List.all_append,h,k]; rfl
theorem A3v.anc {H L:A0} {f:AV} {rows:List (List AV)} (h:A3v H.length L f rows) (hg:grL H.length L = true):((X9 (H++L) f).all fun b=>Nat.ble H.length b) = true:= by
 rcases h with ⟨rfl,_⟩ | ⟨j,anc,rfl,hj,_⟩
 ·rfl
 ·have:=List.all_eq_true.1 hg _ (List.mem_of_getElem? hj)
  simp only [AO.anc] at this
  simp only [X9,K0,hj,AO.anc,List.all_cons,this,Bool.and_true]
  exact Nat.ble_eq_true_of_le (Nat.le_add_right _ _)
theorem A3v.app {N:Nat} {L M:A0} {f:AV} {rows:List (List AV)} (h:A3v N L f rows) (hM:(M.all fun o=>!o.isS) = true):A3v N (L++M) f rows:= by
 rcases h with h | ⟨j,anc,e,hj,h⟩
 ·exact .inl h
 ·have hlt:=(List.getElem?_eq_some_iff.1 hj).1
  exact .inr ⟨j,anc,e,by rw [List.getElem?_append_left hlt]; exact hj,by rw [List.drop_append_of_le_length hlt,List.all_append,h,hM]; rfl⟩
theorem B76 {H:A0} {b:Nat} {cs:List AV} (h:hcells H b = some cs):hstk H b = none:= by
 unfold hcells at h
 unfold hstk
 split at h <;> first | (rename_i e; rw [e]) | cases h
theorem A81 {H:A0} {b i:Nat} {o:AO} (h:b ≠ i):hget (hset H i o) b = hget H b:= by
 unfold hget hset; rw [List.getElem?_set_ne (fun e=>h e.symm)]
theorem A2j.dead {H:A0} {k i:Nat} {v:AV} {rows:List (List AV)} {cs:List AV} (h:A2j H k v rows) (hi:hcells H i = some cs):A2j (hset H i .dead) k v rows:= by
 rcases h with h | ⟨b,anc,e,h⟩
 ·exact .inl h
 ·refine .inr ⟨b,anc,e,?_⟩
  rw [A81]; exact h
  intro e; subst e; unfold hcells at hi; rw [h] at hi; cases hi
theorem Young.dead {H:A0} {i:Nat} {v:AV} (h:Young H v):Young (hset H i .dead) v:= by
 intro b n e
 have h1:=h b n e
 rw [List.all_eq_true] at h1 ⊢
 intro o ho
 obtain ⟨j,hj⟩:=List.getElem?_of_mem ho
 unfold hset at hj
 rw [List.getElem?_drop,List.getElem?_set] at hj
 split at hj
 ·split at hj
  ·cases hj; rfl
  ·cases hj
 ·exact h1 o (List.mem_of_getElem? (i:=j) (by rw [List.getElem?_drop]; exact hj))
theorem B7o {H:A0} {k i:Nat} {v:AV} {rows:List (List AV)} {cs:List AV} (h:A2j H k v rows) (hi:hcells H i = some cs):X9 (hset H i .dead) v = X9 H v:= by
 rcases h with ⟨rfl,_⟩ | ⟨b,anc,rfl,h⟩
 ·rfl
 ·have:b ≠ i:= by intro e; subst e; unfold hcells at hi; rw [h] at hi; cases hi
  simp only [X9,A81 this]
theorem C0a {H L:A0} {k:Nat} {v:AV} {rows:List (List AV)} (h:A2j H k v rows):X9 (H++L) v = X9 H v:= by
 rcases h with ⟨rfl,_⟩ | ⟨b,anc,rfl,hg⟩
 ·rfl
 ·simp only [X9,B0t hg,hg]
def C45 {α:Type} (T:Tab) (i:Nat) (fc:List AV) (sh:Nat→A0→α→AV→Prop) (pre:A0→Prop) (it:∀(σ ρ:Type),(α→σ→Option (σ ⊕ ρ))→σ→Option (σ ⊕ ρ)):Prop :=
 ∀ {σ ρ:Type} (Hm:σ ⊕ ρ→A0) (N:Nat),(∀ x,(Hm x).length = N)→(∀ x,pre (Hm x))→∀ (y:AV),y.bd N = true→y.cellsOf = [y]→∀ (body:α→σ→Option (σ ⊕ ρ)),
  (∀ {L:A0} {c:Sc} {x:α} {s:σ} {o:σ ⊕ ρ} {v:AV},O5 c (Hm (.inl s)++L) = true→grL N L = true→sh N L x v→body x s = some o→F1 T c (Hm (.inl s)++L) y [v] [.b o.isLeft] (Hm o++L)) →
  ∀ {s0:σ} {o:σ ⊕ ρ},it σ ρ body s0 = some o→∀ {c:Sc},O5 c (Hm (.inl s0)) = true→F1 T c (Hm (.inl s0)) (.fn (.func i) [] fc) [y] [] (Hm o)
end Am
namespace Ds
open Go Am Go.Proofs.Ytdkflofgolehkaa.Cd
theorem C30 {H:A0} {b:Nat}:hmap (H.map AO.toRo) b = hmap H b:= by
 unfold hmap hget
 rw [List.getElem?_map]
 cases H[b]? with
 | none=>rfl
 | some o=>cases o with
  | ro o=>cases o <;> rfl
  | _=>rfl
theorem A3u.toRo {H:A0} {b:Nat} {t:DrRoom} {ch:Chg} (h:A3u H b t ch):A3u (H.map AO.toRo) b t ch:= by
 obtain ⟨m,h1,h2⟩:=h
 exact ⟨m,by rw [A4y]; exact h1,by rw [C30]; exact h2⟩
section
variable {T:Tab} {s:B1} {H0:A0} {l:List AO} {c:Sc} {n0 N:Nat}
theorem B6d {a:Opd} {j k:Nat} {cs:List AV} (hN:H0.length = N) (h:ev s a = some (.ptr (N + j) 0)) (hl:l[j]? = some (.cells cs)) (hk:Nat.beq cs.length k = true):One T c n0 s (H0++l) (.load (some k) a) (.agg cs) (H0++l):= by subst hN; exact C5 h hl hk
end
section
variable {σ ρ:Type}
def C5e (t:DrRoom) (persons:Int) (p:Int):Option (Int ⊕ Int) :=
 (if (decide (p < (List.length t.Persons:Int))) = true then (B4w .i64 persons p).bind fun q=>some (B2i q 1 == 0) else some false).bind fun g =>
 if g = true then some (.inl (w64 (p + 1))) else some (.inr p)
def C5l (t:DrRoom) (ch:Chg) (rec:Int→Int→dress_plan→σ→Option (σ ⊕ ρ)) (person used:Int) (p:dress_plan) (x:Int × σ):Option ((Int × σ) ⊕ (ρ ⊕ σ)) :=
 if (decide (x.1 < (List.length t.Figures:Int))) = true then
  (B4w .i64 used x.1).bind fun q =>
  if (B2i q 1 == 1) = true then some (.inl (w64 (x.1 + 1),x.2))
  else
   (W9 p x.1 (A16 ch x.1 person)).bind fun p' =>
   (B8r .i64 1 x.1).bind fun b =>
   (rec (w64 (person + 1)) (orI used b) p' x.2).bind fun y =>
   match y with
   | .inl s'=>some (.inl (w64 (x.1 + 1),s'))
   | .inr r=>some (.inr (.inl r))
 else some (.inr (.inr x.2))
def B6c (t:DrRoom) (ch:Chg) (persons:Int) (body:dress_plan→σ→Option (σ ⊕ ρ)):Nat→Int→Int→dress_plan→σ→Option (σ ⊕ ρ)
 | 0,_,_,_,_=>none
 | k + 1,person,used,p,s =>
  (loop (C5e t persons) person).bind fun person =>
  if (person == (List.length t.Persons:Int)) = true then body p s
  else (loop (C5l t ch (B6c t ch persons body k) person used p) (0,s)).bind fun o =>
   match o with
   | .inl r=>some (.inr r)
   | .inr s'=>some (.inl s')
end
def A95 (t:DrRoom) (ch:Chg) (persons:Int) (σ ρ:Type) (body:dress_plan→σ→Option (σ ⊕ ρ)) (s:σ):Option (σ ⊕ ρ) :=
 B6c t ch persons body 64 0 0 (begin0 t) s
def caps (N b1 b2:Nat):List AV:=[.ptr b1 0,.ptr b2 0,.ptr (N + 0) 0,.ptr (N + 2) 0,.ptr (N + 1) 0]
def L0 (N b1 b2 b:Nat) (y:AV):List AO:=[.cells [y],.cells [.fn (.func 93) [.ptr b 0] []],.cells [.fn (.func 101) [] (caps N b1 b2)]]
section
variable {σ ρ:Type} {t:DrRoom} {ch:Chg} {persons:Int} {Hm:σ ⊕ ρ→A0} {N b1 b2 b:Nat} {y:AV} {body:dress_plan→σ→Option (σ ⊕ ρ)}
theorem B9t (hN:∀x,(Hm x).length = N) (h1:∀x,hcells (Hm x) b1 = some [.ptr b 0]) (h2:∀x,hcells (Hm x) b2 = some [.i persons]) (ht:∀x,A3u (Hm x) b t ch)
  (hy:∀{L:A0} {c:Sc} {p:dress_plan} {s:σ} {o:σ ⊕ ρ} {f:AV},O5 c (Hm (.inl s)++L) = true→grL N L = true→A3v N L f (p.figures_.map cI)→body p s = some o→F1 tab c (Hm (.inl s)++L) y [.agg (cP f p)] [.b o.isLeft] (Hm o++L)) :
  ∀ (k:Nat) (person used:Int) (p:dress_plan) (s:σ) (x:σ ⊕ ρ),B6c t ch persons body k person used p s = some x→∀ (M:A0) (f:AV) (c:Sc),grL N (L0 N b1 b2 b y++M) = true→A3v N (L0 N b1 b2 b y++M) f (p.figures_.map cI)→O5 c (Hm (.inl s)++(L0 N b1 b2 b y++M)) = true →
   F1 tab c (Hm (.inl s)++(L0 N b1 b2 b y++M)) (.fn (.func 101) [] (caps N b1 b2)) [.i person,.i used,.agg (cP f p)] [.b x.isLeft] (Hm x++(L0 N b1 b2 b y++M))
 | 0,_,_,_,_,_,h,_,_,_,_,_,_=>by cases h
 | k + 1,person,used,p,s,x,h,M,f,c,hgr,hf,hsc=>by
  have ih:=B9t hN h1 h2 ht hy k
  unfold B6c at h
  have hl3:∀z,(Hm z++(L0 N b1 b2 b y++M)).length = N + (M.length + 3):=fun z=>by rw [List.length_append,hN,List.length_append]; simp only [L0,List.length_cons,List.length_nil]; omega
  have hb1:∀z,hcells (Hm z++(L0 N b1 b2 b y++M)) b1 = some [.ptr b 0]:=fun z=>J7 (h1 z) _
  have hb2:∀z,hcells (Hm z++(L0 N b1 b2 b y++M)) b2 = some [.i persons]:=fun z=>J7 (h2 z) _
  have hbt:∀z,A3u (Hm z++(L0 N b1 b2 b y++M)) b t ch:=fun z=>(ht z).app
  have q0:∀z,hcells (Hm z++(L0 N b1 b2 b y++M)) (N + 0) = some [y]:=fun z=>by rw [← hN z]; exact D2 rfl
  have q1:∀z,hcells (Hm z++(L0 N b1 b2 b y++M)) (N + 1) = some [.fn (.func 93) [.ptr b 0] []]:=fun z=>by rw [← hN z]; exact D2 rfl
  have q2:∀z,hcells (Hm z++(L0 N b1 b2 b y++M)) (N + 2) = some [.fn (.func 101) [] (caps N b1 b2)]:=fun z=>by rw [← hN z]; exact D2 rfl
  have hbd1:b1 < N:= by have:=A3i (h1 (.inl s)); rwa [hN] at this
  have hbd2:b2 < N:= by have:=A3i (h2 (.inl s)); rwa [hN] at this
  obtain ⟨m,ht1,ht2⟩:=ht (.inl s)
  refine A3z (aq:=[.i person,.i used,.agg (cP f p),.ptr b1 0,.ptr b2 0,.ptr (N + 0) 0,.ptr (N + 2) 0,.ptr (N + 1) 0]) rfl rfl rfl (A0v ?_)
  refine oB h fun person' hp' h=>?_
  have as1:∀z (Y:A0),Hm z++(L0 N b1 b2 b y++M)++Y = Hm z++((L0 N b1 b2 b y++M)++Y):=fun z Y=>List.append_assoc _ _ _
  have htk:∀z,(Hm z++(L0 N b1 b2 b y++M)++[AO.cells (cP f p)]).take (Hm (.inl s)++(L0 N b1 b2 b y++M)).length = Hm z++(L0 N b1 b2 b y++M):=fun z=>by rw [hl3,← hl3 z]; exact List.take_left
  refine sg 0 rfl<|A1 (H8 (cs:=cP f p) rfl rfl rfl) rfl<|qm rfl<|es (ra8 rfl rfl rfl rfl rfl rfl rfl rfl)<|C41<|C1<|C6<|wl (fun s1=>[(0,.i s1),(1,.i used),(3,.ptr b1 0),(4,.ptr b2 0),(5,.ptr (N + 0) 0),(6,.ptr (N + 2) 0),(7,.ptr (N + 1) 0),(10,.ptr ((Hm (.inl s)++(L0 N b1 b2 b y++M)).length + 0) 0)]) (fun (_:Unit) _=>[.cells (cP f p)]) 1 (fun r e s' H'=>PX 0 [(0,.i r),(1,.i used),(3,.ptr b1 0),(5,.ptr (N + 0) 0),(6,.ptr (N + 2) 0),(7,.ptr (N + 1) 0),(10,.ptr ((Hm (.inl s)++(L0 N b1 b2 b y++M)).length + 0) 0)] (Hm (.inl s)++(L0 N b1 b2 b y++M)++[.cells (cP f p)]) e s' H') () hp' rfl rfl (fun _ _=>rfl) (fun _=>rfl) rfl (fun s1=>?_) (fun q s1 ys1 hs1=>?_) ?_
  ·refine bdc A9 (bdc A9 (bdc ?_ (bdc ?_ (bdc ?_ (bdc ?_ (bdc ?_ (bdc (F3 rfl) bdn)))))))
   all_goals (simp only [AV.bd]; exact Nat.ble_eq_true_of_le (by rw [hl3]; omega))
  ·unfold C5e at hs1
   refine oB hs1 fun g hg hs1=>?_
   refine C1<|s0<|qm rfl<|A1 (M6 rfl (hb1 _) rfl) rfl<|A1 (V4 rfl rfl) rfl<|A1 (D6 rfl) rfl<|A1 (D6 rfl) rfl<|A1 (M6 rfl (J7 ht1 _) rfl) rfl<|A1 (E6 (f:=A3) rfl) rfl<|A1 (L8 rfl rfl) rfl<|qm rfl ?_
   refine gp 6 27 (.b g) 21 rfl rfl (fun hg1=>?_) (fun hg1=>?_) ?_
   ·refine oB (Am.bt hg hg1) fun q hq hg=>?_
    obtain rfl:=os hg
    exact gT rfl hg1<|A1 (M6 rfl (hb2 _) rfl) rfl<|gT rfl hg1<|qm rfl<|gT rfl hg1<|A1 (B1b rfl rfl hq) rfl<|gT rfl hg1<|A1 (K3 (v:=(.i (B2i q 1))) rfl rfl rfl) rfl<|gT rfl hg1<|A1 (J3 rfl rfl) rfl<|A1 (D8 rfl hg1 rfl) rfl<|ge 6 rfl rfl rfl
   ·obtain rfl:=os (Am.bf hg hg1)
    exact nT rfl hg1 rfl<|nT rfl hg1 rfl<|nT rfl hg1 rfl<|nT rfl hg1 rfl<|nT rfl hg1 rfl<|A1 (D7 rfl hg1 rfl) rfl<|ge 6 rfl rfl rfl
   refine es (ra9 rfl rfl rfl rfl rfl rfl rfl rfl rfl)<|wi hs1 rfl (fun hc2 hs1=>?_) fun hc2 hs1=>?_
   ·refine C9<|C6<|r0<|qm rfl<|A1 (G9 rfl rfl) rfl<|qm rfl<|en (ra8 rfl rfl rfl rfl rfl rfl rfl rfl) ?_
    cases hs1
    exact lnT () rfl (su8 rfl rfl rfl rfl rfl rfl rfl rfl)
   ·refine I5 ?_
    obtain rfl:=os hs1
    exact lx rfl px (su7 rfl rfl rfl rfl rfl rfl rfl)
  ·rintro e s' H' - ⟨rfl,rfl,rfl⟩
   refine C1<|s0<|qm rfl<|A1 (M6 rfl (hb1 _) rfl) rfl<|A1 (V4 rfl rfl) rfl<|A1 (D6 rfl) rfl<|A1 (D6 rfl) rfl<|A1 (M6 rfl (J7 ht1 _) rfl) rfl<|A1 (E6 (f:=A3) rfl) rfl<|A1 (J3 rfl rfl) rfl<|es (ra8 rfl rfl rfl rfl rfl rfl rfl rfl)<|wi h rfl (fun hc h=>?_) fun hc h=>?_
   ·have hcall:F1 tab ⟨(Hm (.inl s)++(L0 N b1 b2 b y++M)).length,c.cur :: c.outer⟩ (Hm (.inl s)++(L0 N b1 b2 b y++M)++[.cells (cP f p)]) y [.agg (cP f p)] [.b x.isLeft] (Hm x++(L0 N b1 b2 b y++M)++[.cells (cP f p)]):= by
     have hle:(Hm (.inl s)++(L0 N b1 b2 b y++M)).length≤(Hm (.inl s)++(L0 N b1 b2 b y++M)++[AO.cells (cP f p)]).length:= by have:=@List.length_append AO (Hm (.inl s)++(L0 N b1 b2 b y++M)) [AO.cells (cP f p)]; omega
     have hsc2:=B1z hsc hle hle
     rw [as1] at hsc2
     rw [as1,as1]
     exact hy hsc2 (B9a hgr rfl) (hf.app rfl) h
    refine s0<|A1 (M6 rfl (q0 _) rfl) rfl<|A1 (C5 rfl rfl rfl) rfl<|R8 (O4 rfl rfl hcall rfl) rfl<|qm rfl<|es (ra1 rfl)<|D0 ?_
    show B2h _ _ _ _ .ret _ _
    exact B8n trivial (B3 rfl B6) (A8 (v:=.lit (.bool x.isLeft)) rfl B9) (A5 A9 B4) (htk _)
   ·refine oB h fun o ho h=>?_
    have hK:∀z,(Hm z++(L0 N b1 b2 b y++M)).length = (Hm (.inl s)++(L0 N b1 b2 b y++M)).length:=fun z=>by rw [hl3,hl3]
    generalize hKe:(Hm (.inl s)++(L0 N b1 b2 b y++M)).length = K at hK
    have hK1:∀z,(Hm z++(L0 N b1 b2 b y++M)++[AO.cells (cP f p)]).length = K + 1:=fun z=>by rw [List.length_append,hK]; rfl
    have hKN:K = N + (M.length + 3):= by rw [← hKe,hl3]
    refine C9<|C1<|C9<|C1<|s0<|A1 (M6 rfl (hb1 _) rfl) rfl<|A1 (V4 rfl rfl) rfl<|A1 (D6 rfl) rfl<|A1 (D6 rfl) rfl<|A1 (M6 rfl (J7 ht1 _) rfl) rfl<|A1 (E6 (f:=A3) rfl) rfl<|qm rfl<|es (ra7 rfl rfl rfl rfl rfl rfl rfl)<|C6 ?_
    refine Y5 (B2e (γ:=Unit) (live:=[0,1,6,7,10,46,47]) (body:=C5l t ch (B6c t ch persons body k) person' used p) (fun x=>[(0,.i person'),(1,.i used),(6,.ptr (N + 2) 0),(7,.ptr (N + 1) 0),(10,.ptr (K + 0) 0),(46,.i (List.length t.Figures:Int)),(47,.i x.1)]) (fun _ x=>Hm (.inl x.2)++(L0 N b1 b2 b y++M)++[.cells (cP f p)]) (K + 1)
     (fun r e s' H'=>match r with
      | .inl r=>e = .ret∧s' = [(11,.b false)]∧H'.take K = Hm (.inr r)++(L0 N b1 b2 b y++M)
      | .inr r=>e = .exit 2∧s' = []∧H' = Hm (.inl r)++(L0 N b1 b2 b y++M)++[.cells (cP f p)]) (fun _ x=>hK1 _) (fun _=>rfl) (by decide) (fun x _=>?_) ?_ ho ()) ?_
    ·refine bdc A9 (bdc A9 (bdc ?_ (bdc ?_ (bdc ?_ (bdc A9 (bdc A9 bdn))))))
     all_goals (simp only [AV.bd]; exact Nat.ble_eq_true_of_le (by omega))
    ·intro _ x o' hb
     unfold C5l at hb
     have hlx:∀(z:σ ⊕ ρ) (Y:List AO),(Hm z++(L0 N b1 b2 b y++M)++(AO.cells (cP f p) :: Y)).take (K + 1) = Hm z++(L0 N b1 b2 b y++M)++[AO.cells (cP f p)]:=fun z Y=>by
      rw [show Hm z++(L0 N b1 b2 b y++M)++(AO.cells (cP f p) :: Y) = (Hm z++(L0 N b1 b2 b y++M)++[AO.cells (cP f p)])++Y by rw [List.append_assoc (Hm z++(L0 N b1 b2 b y++M))]; rfl,← hK1 z]
      exact List.take_left
     have hlen4:∀(z:σ ⊕ ρ) (Y:List AO),(Hm z++(L0 N b1 b2 b y++M)++(AO.cells (cP f p) :: Y)).length = K + (Y.length + 1):=fun z Y=>by rw [List.length_append,hK]; rfl
     have hlk:∀(z:σ ⊕ ρ) (Y:List AO),(Hm z++(L0 N b1 b2 b y++M)++Y).take K = Hm z++(L0 N b1 b2 b y++M):=fun z Y=>by rw [← hK z]; exact List.take_left
     refine s0<|A1 (L8 rfl rfl) rfl<|es (ra8 rfl rfl rfl rfl rfl rfl rfl rfl)<|C1<|wi hb rfl (fun hc hb=>?_) fun hc hb=>?_
     ·refine oB hb fun q hq hb=>?_
      refine C9<|C1<|C6<|s0<|qm rfl<|qm rfl<|es (ra8 rfl rfl rfl rfl rfl rfl rfl rfl)<|C1<|s0<|qm rfl<|qm rfl<|A1 (B1b rfl rfl hq) rfl<|A1 (K3 (v:=(.i (B2i q 1))) rfl rfl rfl) rfl<|A1 (J3 rfl rfl) rfl<|es (ra9 rfl rfl rfl rfl rfl rfl rfl rfl rfl)<|wi hb rfl (fun hc2 hb=>?_) fun hc2 hb=>?_
      ·refine I5<|r0<|A1 (G9 rfl rfl) rfl<|qm rfl<|en (ra7 rfl rfl rfl rfl rfl rfl rfl) ?_
       cases hb
       exact ⟨rfl,su7 rfl rfl rfl rfl rfl rfl rfl,(),hlx _ []⟩
      ·refine oB hb fun p1 hp1 hb=>oB hb fun b' hb' hb=>oB hb fun o ho hb=>?_
       have hfx:A3v (Hm (.inl x.2)).length (L0 N b1 b2 b y++M) f (p.figures_.map cI):= by rw [hN]; exact hf
       have hgx:grL (Hm (.inl x.2)).length (L0 N b1 b2 b y++M) = true:= by rw [hN]; exact hgr
       have hs1:=hfx.shr
       have hs2:=hs1.dead (q2 _)
       have hs3:=hs2.app (L:=[AO.cells (cP f p)])
       have hy3:=Young.app (L:=[AO.cells (cP f p)]) hs2 hfx.young.dead rfl
       have hlen3:(hset (Hm (.inl x.2)++(L0 N b1 b2 b y++M)) (N + 2) .dead++[AO.cells (cP f p)]).length = K + 1:= by rw [List.length_append,F4,hK]; rfl
       have hanc:((X9 (hset (Hm (.inl x.2)++(L0 N b1 b2 b y++M)) (N + 2) .dead++[AO.cells (cP f p)]) f).all fun b=>Nat.ble N b) = true:= by
        rw [C0a hs2,B7o hs1 (q2 _)]
        have:=hfx.anc hgx
        rwa [hN] at this
       have hw0:=fun c'=>B97 (c:=c') hs3 hy3 hp1
       generalize hX:B7g (hset (Hm (.inl x.2)++(L0 N b1 b2 b y++M)) (N + 2) .dead++[AO.cells (cP f p)]) f (A16 ch x.1 person') p1 = X at hw0
       rw [hlen3] at hw0
       obtain ⟨an,hX3⟩:∃an,X[3]? = some (.stk 1 (p1.figures_.map cI) an):=⟨_,by rw [← hX]; rfl⟩
       have hX4:X.length = 4:= by rw [← hX]; rfl
       have hXg:grL N (AO.cells (cP f p) :: X) = true:= by
        rw [← hX]
        simp only [grL,B7g,List.all_cons,List.all_nil,AO.anc,hanc,Bool.and_self]
       clear hX
       have hw1:∀c',F1 tab c' (hset (Hm (.inl x.2)++(L0 N b1 b2 b y++M)) (N + 2) .dead++[AO.cells (cP f p)]) (.fn (.func 92) [] []) [.agg (cP f p),.i x.1,.agg (B2 (A16 ch x.1 person'))] [.agg (cP (.asl (K + 1 + 3) p1.figures_.length) p1)] (hset (Hm (.inl x.2)++(L0 N b1 b2 b y++M)) (N + 2) .dead++(AO.cells (cP f p) :: X)):=fun c'=>by
        have:=hw0 c'
        rwa [List.append_assoc] at this
       have hb6:N + 2 < (Hm (.inl x.2)++(L0 N b1 b2 b y++M)).length:= by rw [hK]; omega
       have hf1:A3v N (L0 N b1 b2 b y++(M++(AO.cells (cP f p) :: X))) (.asl (K + 1 + 3) p1.figures_.length) (p1.figures_.map cI):= by
        refine .inr ⟨M.length + 7,an,?_,?_,?_⟩
        ·rw [List.length_map,hKN,show N + (M.length + 3) + 1 + 3 = N + (M.length + 7) by omega]
        ·rw [show L0 N b1 b2 b y++(M++(AO.cells (cP f p) :: X)) = (L0 N b1 b2 b y++M++[AO.cells (cP f p)])++X by simp]
         have hll:(L0 N b1 b2 b y++M++[AO.cells (cP f p)]).length = M.length + 4:= by simp [L0]
         rw [List.getElem?_append_right (by rw [hll]; omega),hll,show M.length + 7 - (M.length + 4) = 3 by omega]
         exact hX3
        ·rw [List.drop_of_length_le (by simp [L0,hX4])]; rfl
       have hg1:grL N (L0 N b1 b2 b y++(M++(AO.cells (cP f p) :: X))) = true:= by
        rw [← List.append_assoc]; exact B9a hgr hXg
       have as2:∀z,Hm z++(L0 N b1 b2 b y++(M++(AO.cells (cP f p) :: X))) = Hm z++(L0 N b1 b2 b y++M)++(AO.cells (cP f p) :: X):=fun z=>by
        rw [as1 z,← List.append_assoc (L0 N b1 b2 b y)]
       have hcost:∀c',T3 tab c' ((Hm (.inl x.2)++(L0 N b1 b2 b y++M)++[AO.cells (cP f p)]).map AO.toRo) (.fn (.func 93) [.ptr b 0] []) [.i x.1,.i person'] [.agg (B2 (A16 ch x.1 person'))]:=fun c' =>
        (A3y (a:=[.ptr b 0]) (B83 ((hbt (.inl x.2)).app.toRo) x.1 person')).frz
       have hnext:∀c',O5 c' (Hm (.inl x.2)++(L0 N b1 b2 b y++M)++(AO.cells (cP f p) :: X)) = true→F1 tab c' (Hm (.inl x.2)++(L0 N b1 b2 b y++M)++(AO.cells (cP f p) :: X)) (.fn (.func 101) [] (caps N b1 b2)) [.i (w64 (person' + 1)),.i (orI used b'),.agg (cP (.asl (K + 1 + 3) p1.figures_.length) p1)] [.b o.isLeft] (Hm o++(L0 N b1 b2 b y++M)++(AO.cells (cP f p) :: X)):=fun c' hc'=>by
        have:=ih _ _ _ _ _ ho (M++(AO.cells (cP f p) :: X)) _ c' hg1 hf1 (by rw [as2]; exact hc')
        rwa [as2,as2] at this
       refine C9<|s0<|A1 (B6d (hK _) rfl rfl rfl) rfl<|qm rfl<|A1 (M6 rfl (q1 _) rfl) rfl<|qm rfl<|qm rfl<|A1 (A5y rfl rfl (hcost _)) rfl<|C21 [] (AO.cells (cP f p) :: X) hb6 (C5q [] rfl rfl rfl rfl hb6 (B76 (q2 _))) (seen0 rfl) (O4 rfl rfl (hw1 _) rfl) ?_ rfl rfl<|A92 [] (B50 [] rfl A7s rfl rfl) (B94 (b:=N + 2) rfl (B3y (B2m _ _) B65)) (M6 rfl (q2 _) rfl) rfl<|qm rfl<|A1 (G9 rfl rfl) rfl<|qm rfl<|qm rfl<|A1 (B6h rfl rfl hb') rfl<|A1 (K3 (v:=(.i (orI used b'))) rfl rfl rfl) rfl<|R8 (O4 rfl rfl (hnext _ ?_) rfl) rfl<|A1 (A4m rfl) rfl<|es (ra8 rfl rfl rfl rfl rfl rfl rfl rfl) ?_
       ·exact Nat.ble_eq_true_of_le (by simp only [List.length_cons,List.length_nil]; omega)
       ·have hkk:=hlen4 (.inl x.2) X
        exact B1z (c:=⟨K,c.cur :: c.outer⟩) (H:=Hm (.inl s)++(L0 N b1 b2 b y++M)++[AO.cells (cP f p)]) (B1z hsc (by rw [hK1,hKe]; omega) (by rw [hK1]; omega)) (by rw [hK1,hkk]; omega) (by rw [hkk]; omega)
       ·cases o with
        | inl s1 =>
         refine T2 rfl rfl<|C9<|r0<|A1 (G9 rfl rfl) rfl<|qm rfl<|en (ra7 rfl rfl rfl rfl rfl rfl rfl) ?_
         cases hb
         exact ⟨rfl,su7 rfl rfl rfl rfl rfl rfl rfl,(),hlx _ _⟩
        | inr r =>
         refine N5 rfl rfl<|s0<|qm rfl<|es (ra1 rfl)<|D0 ?_
         cases hb
         exact ⟨rfl,_,Sub.refl _,rfl,rfl,hlk _ _⟩
     ·refine I5 ?_
      cases hb
      exact ⟨rfl,_,Sub.nil _,rfl,rfl,rfl⟩
    ·intro e s' H' q
     obtain ⟨_,q⟩:=q
     rcases o with r | s1
     ·obtain ⟨rfl,rfl,q⟩:=q
      cases h
      show B2h _ _ _ _ .ret _ _
      exact B8n trivial (B3 rfl B6) (A8 (v:=.lit (.bool false)) rfl B9) (A5 A9 B4) (by rw [hKe]; exact q)
     ·obtain ⟨rfl,rfl,rfl⟩:=q
      cases h
      refine s0<|qm rfl<|es (ra1 rfl)<|D0 ?_
      show B2h _ _ _ _ .ret _ _
      exact B8n trivial (B3 rfl B6) (A8 (v:=.lit (.bool true)) rfl B9) (A5 A9 B4) (htk _)
end
def shP (N:Nat) (L:A0) (x:dress_plan) (v:AV):Prop:=∃ f,v = .agg (cP f x)∧A3v N L f (x.figures_.map cI)
theorem B6t {t:DrRoom} {ch:Chg} {persons:Int} {b1 b2 b:Nat}:C45 tab 100 [.ptr b1 0,.ptr b2 0] shP (fun H=>hcells H b1 = some [.ptr b 0]∧hcells H b2 = some [.i persons]∧A3u H b t ch) (A95 t ch persons):= by
 intro σ ρ Hm N hN hpre y hyb hyc body hy a0 o ho c hc
 unfold A95 at ho
 have h1:∀x,hcells (Hm x) b1 = some [.ptr b 0]:=fun x=>(hpre x).1
 have h2:∀x,hcells (Hm x) b2 = some [.i persons]:=fun x=>(hpre x).2.1
 have ht:∀x,A3u (Hm x) b t ch:=fun x=>(hpre x).2.2
 have e:=hN (.inl a0)
 have hl2:∀x,(Hm x++L0 N b1 b2 b y).length = N + 3:=fun x=>by rw [List.length_append,hN]; rfl
 have htk:∀x,(Hm x++L0 N b1 b2 b y).take (Hm (.inl a0)).length = Hm x:=fun x=>by rw [e,← hN x]; exact List.take_left
 have hcall:∀c',O5 c' (Hm (.inl a0)++L0 N b1 b2 b y) = true→F1 tab c' (Hm (.inl a0)++L0 N b1 b2 b y) (.fn (.func 101) [] (caps N b1 b2)) [.i 0,.i 0,.agg (cP (.nils 1) (begin0 t))] [.b o.isLeft] (Hm o++L0 N b1 b2 b y):=fun c' hc'=>by
  exact B9t hN h1 h2 ht (fun hsc hg hf hb=>hy hsc hg ⟨_,rfl,hf⟩ hb) 64 0 0 (begin0 t) a0 o ho [] (.nils 1) c' rfl (.inl ⟨rfl,rfl⟩) hc'
 have key:WP tab c100 [(0,y),(1,.ptr b1 0),(2,.ptr b2 0)] (Hm (.inl a0)++[]) ⟨(Hm (.inl a0)).length,c.cur :: c.outer⟩ (B2h (Hm (.inl a0)) (Hm o) [] []):= by
  subst e
  refine sg 0 rfl<|A1 (H8 rfl hyc rfl) rfl<|es (ra3 rfl rfl rfl)<|sg 1 rfl<|A1 (M6 rfl (h1 _) rfl) rfl<|A1 (A3j rfl rfl) rfl<|A1 D9 rfl<|F8 (C4 rfl rfl rfl rfl (N4 ?_) rfl) rfl<|es (ra4 rfl rfl rfl rfl)<|sg 2 rfl<|A1 D9 rfl<|es (ra5 rfl rfl rfl rfl rfl)<|s0<|A1 (A3j rfl rfl) rfl<|F8 (C4 rfl rfl rfl rfl (N4 ?_) rfl) rfl<|es (ra2 rfl rfl)<|r0<|A1 (M6 rfl (h1 _) rfl) rfl<|B90 [2] (L0 (Hm (.inl a0)).length b1 b2 b y) (B50 [] rfl rfl rfl rfl) (seen0 rfl) (R4 rfl rfl (A4 rfl B8) (B5c (ht _).app) rfl) rfl rfl rfl<|A92 [] (B50 [] rfl A7s rfl rfl) (B94 (b:=(Hm (.inl a0)).length + 2) rfl (B3y (A6g _ rfl) B65)) (D5 rfl rfl rfl) rfl<|R8 (O4 rfl rfl (hcall _ ?_) rfl) rfl<|en .n ?_
  ·exact Nat.le_add_right _ _
  ·exact Nat.le_add_right _ _
  ·exact B1z hc (by rw [hl2]; omega) (by rw [hl2]; omega)
  ·show B2h _ _ _ _ .normal _ _
   exact B8n trivial rfl rfl rfl (htk _)
 rw [List.append_nil] at key
 exact A3z (aq:=[y,.ptr b1 0,.ptr b2 0]) rfl rfl rfl key
end Ds
end
section
namespace Am
open Go
section
variable {T:Tab} {s:B1} {H0:A0} {l:List AO} {c:Sc} {Q:Ex→B1→A0→Prop}
def C9p {σ ρ:Type} (H0:A0) (k:Nat) (lh:σ→List AO) (lx:ρ→List AO) (ex:ρ→Ex) (b:AO) (L:A0) (o:σ ⊕ ρ) (e:Ex) (_s:B1) (H2:A0):Prop :=
 ∃ l2,H2 = H0++l2∧match o with
  | .inl s'=>e = .normal∧l2.take (k + 1 + L.length) = lh s'++b :: L
  | .inr r=>e = ex r∧l2.take (k + 1 + L.length) = lx r++b :: L
theorem B15 {l lh L:List AO} {k:Nat} {b b':AO} (hk:lh.length = k) (h:l.take (k + 1 + L.length) = lh++b :: L):(l.set k b').take (k + 1 + L.length) = lh++b' :: L:= by
 rw [List.take_set,h]
 rw [List.set_append_right _ _ (by omega),hk,Nat.sub_self]; rfl
theorem C0j {l lh L:List AO} {k:Nat} {b:AO} (hk:lh.length = k) (h:l.take (k + 1 + L.length) = lh++b :: L):l[k]? = some b:= by
 have e:(l.take (k + 1 + L.length))[k]? = l[k]?:=List.getElem?_take_of_lt (by omega)
 rw [← e,h,List.getElem?_append_right (by omega),hk,Nat.sub_self]; rfl
theorem B7e {σ ρ α:Type} {f:Opd} {p i k:Nat} {live:List Nat} {aq bd:ACode} {fc:List AV} {sh:Nat→A0→α→AV→Prop} {pre:A0→Prop} {it:∀(σ ρ:Type),(α→σ→Option (σ ⊕ ρ))→σ→Option (σ ⊕ ρ)} {s0:σ} {o:σ ⊕ ρ} {body:α→σ→Option (σ ⊕ ρ)}
  (hit:C45 T i fc sh pre it) (sl:B1) (lh:σ→List AO) (lx:ρ→List AO) (ex:ρ→Ex) (h:it σ ρ body s0 = some o) (hex:∀r,(ex r).out = true)
  (hf:ev s f = some (.fn (.func i) [] fc)) (hs:∀S,Sub s S→restrict S live = sl) (hl:lh s0 = l) (hk:∀x,(lh x).length = k) (hkx:∀x,(lx x).length = k)
  (hpre:(∀ x b,pre (H0++(lh x++[b])))∧∀ x b,pre (H0++(lx x++[b]))) (hc:O5 c (H0++l) = true)
  (hb:∀c x s o L v,O5 ⟨H0.length + (k + 1 + L.length),c⟩ (H0++(lh s++.dead :: L)) = true→grL (H0.length + (k + 1)) L = true→sh (H0.length + (k + 1)) L x v→body x s = some o→∀ y0 y1:AO,WP T aq ((p,v) :: sl) (H0++(lh s++y0 :: L)) ⟨H0.length + (k + 1 + L.length),c⟩ (AsQ T H0 k y0 y1 bd ⟨H0.length + (k + 1 + L.length),c⟩ (C9p H0 k lh lx ex y1 L o)))
  (kont:match o with | .inl s'=>Q .normal s (H0++(lh s'++[.dead])) | .inr r=>Q (ex r) s (H0++(lx r++[.dead]))):WP T (.rangeFunc f [p] live aq bd) s (H0++l) c Q:= by
 subst hl
 intro S hS
 let Hm:σ ⊕ ρ→A0:=fun o=>match o with
  | .inl x=>H0++(lh x++[.loop 0 sl [p] aq bd false none])
  | .inr r=>H0++(lx r++[.loop 0 sl [p] aq bd false (some (ex r))])
 have hN:∀x,(Hm x).length = H0.length + (k + 1):= by
  intro x
  cases x with
  | inl x=>simp [Hm,hk]
  | inr x=>simp [Hm,hkx]
 have hlen:(H0++lh s0).length = H0.length + k:= by rw [List.length_append,hk]
 have hap:∀(A:List AO) (b:AO) (L:A0),H0++(A++[b])++L = H0++(A++b :: L):=fun A b L=>by simp
 have hy:∀{L:A0} {c:Sc} {x:α} {s:σ} {o:σ ⊕ ρ} {v:AV},O5 c (Hm (.inl s)++L) = true→grL (H0.length + (k + 1)) L = true→sh (H0.length + (k + 1)) L x v→body x s = some o→F1 T c (Hm (.inl s)++L) (.fn (.yield (H0.length + k)) [] []) [v] [.b o.isLeft] (Hm o++L):= by
  intro L c x s o v hsc hgr hsh hbo
  have hml:∀b,(H0++(lh s++b :: L)).length = H0.length + (k + 1 + L.length):=fun b=>by simp [hk]; omega
  have hm:Hm (.inl s)++L = H0++(lh s++.loop 0 sl [p] aq bd false none :: L):=hap _ _ _
  have hsc2:O5 ⟨H0.length + (k + 1 + L.length),c.cur :: c.outer⟩ (H0++(lh s++.dead :: L)) = true:= by
   rw [hm] at hsc
   exact B1z (c:=c) hsc (by rw [hml,hml]; exact Nat.le_refl _) (by rw [hml]; exact Nat.le_refl _)
  obtain ⟨e1,S1,s1,H1,r1,q1,l1,rfl,rfl,hl1,hw⟩:=hb (c.cur :: c.outer) x s o L v hsc2 hgr hsh hbo (.loop 0 sl [p] aq bd false none) (.loop 0 sl [p] aq bd true none) _ (Sub.refl _)
  obtain ⟨e2,S2,s2,H2,r2,q2,l2,rfl,hb2⟩:=hw S1 q1
  rw [hm]
  have g0:hget (H0++(lh s++.loop 0 sl [p] aq bd false none :: L)) (H0.length + k) = some (.loop 0 sl [p] aq bd false none):= by
   rw [K0,List.getElem?_append_right (by rw [hk]; exact Nat.le_refl _),hk,Nat.sub_self]; rfl
  have fin:∀(lb:List AO) (er:Ex),lb.length = k→l2.take (k + 1 + L.length) = lb++.loop 0 sl [p] aq bd true none :: L→e2 = er→F1 T c (H0++(lh s++.loop 0 sl [p] aq bd false none :: L)) (.fn (.yield (H0.length + k)) [] []) [v] [.b (!er.out)] (H0++(lb++.loop 0 sl [p] aq bd false (match er with | .normal=>none | e=>some e) :: L)):= by
   intro lb er hlb tk he
   subst he
   have g2:=C0j hlb tk
   refine F1.yield (ps:=[p]) (st0:=⟨(p,v) :: sl,H0++(lh s++.loop 0 sl [p] aq bd false none :: L),⟨H0.length + (k + 1 + L.length),c.cur :: c.outer⟩⟩) (st1:=⟨S1,H0++l1,⟨H0.length + (k + 1 + L.length),c.cur :: c.outer⟩⟩)
    (st2:=⟨S2,H0++l2,⟨H0.length + (k + 1 + L.length),c.cur :: c.outer⟩⟩) (e:=e2) rfl g0 rfl (by rw [hml]; rfl) r1 (by rw [K0]; exact hl1) (by rw [E2]) r2 (by rw [K0]; exact g2) rfl ?_
   rw [hml,E2]
   simp only [trunc,bdL,if_true]
   rw [T6,B15 hlb tk]
   cases e2 <;> rfl
  cases o with
  | inl s' =>
   have:=fin (lh s') .normal (hk s') hb2.2 hb2.1
   have hm2:Hm (.inl s')++L = H0++(lh s'++.loop 0 sl [p] aq bd false none :: L):=hap _ _ _
   rw [hm2]; exact this
  | inr r =>
   have:=fin (lx r) (ex r) (hkx r) hb2.2 hb2.1
   have he:(match ex r with | .normal=>none | e=>some e) = some (ex r):= by
    have:=hex r
    cases hq:ex r <;> rw [hq] at this <;> first | rfl | cases this
   rw [he,hex r] at this
   have hm2:Hm (.inr r)++L = H0++(lx r++.loop 0 sl [p] aq bd false (some (ex r)) :: L):=hap _ _ _
   rw [hm2]; exact this
 have hcall:=hit Hm (H0.length + (k + 1)) hN (by
  intro x
  cases x with
  | inl x=>exact hpre.1 x _
  | inr x=>exact hpre.2 x _) (.fn (.yield (H0.length + k)) [] []) (by simp only [AV.bd,bdL,Bool.and_true]; exact Nat.ble_eq_true_of_le (by omega)) rfl body hy h (c:=c) (by
  have hq:=hN (.inl s0)
  unfold O5 at hc ⊢
  rw [List.all_eq_true] at hc ⊢
  intro B hB
  have:=Nat.le_of_ble_eq_true (hc B hB)
  rw [hlen] at this
  exact Nat.ble_eq_true_of_le (by omega))
 have hres:=hs S hS
 have g:∀o:σ ⊕ ρ,hget (Hm o) (H0.length + k) = some (.loop 0 sl [p] aq bd false (B4u ex o)):= by
  intro o
  cases o with
  | inl x=>simp only [Hm]; rw [K0,List.getElem?_append_right (by rw [hk]; exact Nat.le_refl _),hk,Nat.sub_self]; rfl
  | inr x=>simp only [Hm]; rw [K0,List.getElem?_append_right (by rw [hkx]; exact Nat.le_refl _),hkx,Nat.sub_self]; rfl
 have hr:=F5.rangeFunc (T:=T) (ac:=.rangeFunc f [p] live aq bd) (st:=⟨S,H0++lh s0,c⟩) (l:=H0.length + k) (H0:=Hm (.inl s0)) (H':=Hm o) (pend:=B4u ex o) (e:=C7l ex o)
  (st':=⟨S,hset (Hm o) (H0.length + k) .dead,c⟩) rfl (Z3 hS hf) hlen.symm (by simp only [hres,Hm,List.append_assoc]) hcall (g o) (by cases o <;> rfl) rfl
 refine ⟨_,S,s,_,hr,hS,?_⟩
 cases o with
 | inl x =>
  have:hset (Hm (.inl x)) (H0.length + k) .dead = H0++(lh x++[.dead]):= by
   simp only [Hm]; rw [E2,List.set_append_right _ _ (by rw [hk]; exact Nat.le_refl _),hk,Nat.sub_self]; rfl
  show Q .normal s (hset (Hm (.inl x)) (H0.length + k) .dead)
  rw [this]; exact kont
 | inr r =>
  have:hset (Hm (.inr r)) (H0.length + k) .dead = H0++(lx r++[.dead]):= by
   simp only [Hm]; rw [E2,List.set_append_right _ _ (by rw [hkx]; exact Nat.le_refl _),hkx,Nat.sub_self]; rfl
  show Q (ex r) s (hset (Hm (.inr r)) (H0.length + k) .dead)
  rw [this]; exact kont
end
end Am
end
section
set_option maxRecDepth 100000
set_option maxHeartbeats 0
namespace Ds
open Go Am Go.Proofs.Ytdkflofgolehkaa.Cd
def W1 (a0:dress_plan) (s1:(Int × Int × (Ar4 Int))):Option ((Int × Int × (Ar4 Int)) ⊕ (Int × (Ar4 Int))) :=
 if (decide (s1.2.1 < 4)) = true then
  (idx (Ar4.l a0.left_) s1.2.1).bind fun x4 =>
  (idx (Ar4.l s1.2.2) s1.2.1).bind fun x5 =>
  (idx (Ar4.l (Ar4.set s1.2.2 s1.2.1 (A9n 0 (w64 (0 - x4))))) s1.2.1).bind fun x6 =>
  some (.inl ((w64 (s1.1 + x6)),(w64 (s1.2.1 + 1)),(Ar4.set s1.2.2 s1.2.1 (A9n 0 (w64 (0 - x4))))))
 else
  some (.inr (s1.1,s1.2.2))
def M1 (a0:dress_plan):Option ((Ar4 Int) × Int) :=
 (loop (W1 a0) (0,0,(Ar4.mk 0 0 0 0))).bind fun (o7:(Int × (Ar4 Int))) =>
 some (o7.2,o7.1)
theorem A01 {c:Sc} {H:A0} {a0:dress_plan} {r:((Ar4 Int) × Int)} (h:M1 a0 = some r) :
  F2 tab c H (.fn (.func 75) [] []) [(.agg (A2 a0))] [(.agg ((V1 cI) r.1)),.i r.2]:= by
 unfold M1 at h
 refine cE rfl rfl<|sg 0 rfl<|A1 (H8 (cs:=A2 a0) rfl rfl rfl) rfl<|A1 D9 rfl<|qm rfl<|es (ra3 rfl rfl rfl)<|C1<|s0<|A1 (D6 rfl) rfl<|A1 (G1 (ds:=(V1 cI) a0.left_) rfl rfl rfl rfl) rfl<|qm rfl<|es (ra4 rfl rfl rfl rfl)<|C6<|oB h fun o7 ho7 h=>wl (fun s1=>[(2,(.ptr (H.length + 1) 0)),(3,.i s1.1),(7,(.agg ((V1 cI) a0.left_))),(8,.i s1.2.1)]) (fun (q2:Unit) s1=>[(.cells (A2 a0)),(.cells ((V1 cI) s1.2.2))]) 2 (fun r e s' H'=>PX 0 [(2,(.ptr (H.length + 1) 0)),(3,.i r.1)] (H++[(.cells (A2 a0)),(.cells ((V1 cI) r.2))]) e s' H') () ho7 rfl rfl (fun _ _=>rfl) (fun _=>rfl) rfl (fun s1=>(bdc (F3 rfl) (bdc A9 (bdc (T9 rfl) (bdc A9 bdn))))) (fun q2 s1 ys1 hs1=>?_) ?_
 ·unfold W1 at hs1
  refine s0<|A1 (L8 rfl rfl) rfl<|es (ra5 rfl rfl rfl rfl rfl)<|C1<|wi hs1 rfl (fun hc3 hs1=>?_) fun hc3 hs1=>?_
  ·refine C9<|C1<|C6<|s0<|oB hs1 fun x4 hx4 hs1=>qm rfl<|A1 (B08 (f:=cI) (g:=fun n=>(.i n)) (e:=Ar4.l a0.left_) (fun _=>rfl) rfl rfl rfl rfl hx4) rfl<|qm rfl<|qm rfl<|es (ra6 rfl rfl rfl rfl rfl rfl)<|s0<|oB hs1 fun x5 hx5 hs1=>qm rfl<|qm rfl<|A1 (C59 rfl rfl) rfl<|A1 (C75 rfl rfl) rfl<|A1 (A2d (e:=Ar4.l s1.2.2) rfl rfl rfl hx5) rfl<|F8 (A4e (f:=cI) (e:=Ar4.l s1.2.2) (e2:=Ar4.l (Ar4.set s1.2.2 s1.2.1 (A9n 0 (w64 (0 - x4))))) (z:=(A9n 0 (w64 (0 - x4)))) (ds:=((V1 cI) (Ar4.set s1.2.2 s1.2.1 (A9n 0 (w64 (0 - x4)))))) rfl rfl rfl rfl rfl rfl (fun _=>rfl) hx5 (Ar4.set_l hx5) rfl (C0 rfl)) rfl<|es (ra5 rfl rfl rfl rfl rfl)<|r0<|oB hs1 fun x6 hx6 hs1=>qm rfl<|qm rfl<|A1 (A2d (e:=Ar4.l (Ar4.set s1.2.2 s1.2.1 (A9n 0 (w64 (0 - x4))))) rfl rfl rfl hx6) rfl<|A1 (A4d (f:=cI) (g:=fun n=>(.i n)) (e:=Ar4.l (Ar4.set s1.2.2 s1.2.1 (A9n 0 (w64 (0 - x4))))) (fun _=>rfl) rfl (D2 rfl) rfl hx6) rfl<|A1 (G9 rfl rfl) rfl<|qm rfl<|en (ra4 rfl rfl rfl rfl)<|r0<|A1 (G9 rfl rfl) rfl<|qm rfl<|en (ra4 rfl rfl rfl rfl) ?_
   cases hs1
   exact lnT () rfl (su4 rfl rfl rfl rfl)
  ·refine I5 ?_
   obtain rfl:=os hs1
   exact lx rfl px (su2 rfl rfl)
 ·rintro e s' H' - ⟨rfl,rfl,rfl⟩
  refine s0<|A1 (C5 rfl rfl rfl) rfl<|qm rfl<|F8 (C4 (ds:=((V1 cI) o7.2)) rfl rfl rfl rfl (C0 rfl) rfl) rfl<|qm rfl<|es (ra2 rfl rfl)<|D0 ?_
  obtain rfl:=os h
  exact retq trivial (L7 (G1 (ds:=(V1 cI) o7.2) rfl rfl rfl rfl) (B3 rfl B6)) (A8 (W2 rfl) (A8 rfl B9)) (A5 (T9 rfl) (A5 A9 B4))
def M0 (a0:dress_plan):Option Bool :=
 (M1 a0).bind fun x1 =>
 some ((x1.1.x0 == (Ar4.mk 0 0 0 0).x0) && ((x1.1.x1 == (Ar4.mk 0 0 0 0).x1) && ((x1.1.x2 == (Ar4.mk 0 0 0 0).x2) && ((x1.1.x3 == (Ar4.mk 0 0 0 0).x3) && true))))
def A09 (a0:dress_plan):Option dress_plan :=
 (B9r 8 (List.length a0.figures_:Int) 0).bind fun x1 =>
 some (dress_plan.mk (cpy x1 a0.figures_) a0.cost_ a0.left_)
end Ds
end
section
set_option maxRecDepth 100000
set_option maxHeartbeats 0
namespace Am
open Go
def A58 (H:A0) (k:Nat) (v:AV) (rows:List (List AV)):Prop :=
 (v = .nils k∧rows = [])∨∃ b anc,v = .asl b rows.length∧hstk H b = some (k,rows,anc)
theorem B5w {H:A0} {b:Nat} {x:Nat × List (List AV) × List Nat} (h:hstk H b = some x):harr H b = none:= by
 unfold hstk at h
 unfold harr
 split at h <;> first | (rename_i e; rw [e]) | cases h
theorem A2j.toR {H:A0} {k:Nat} {v:AV} {rows:List (List AV)} (h:A2j H k v rows):A58 H k v rows:= by
 rcases h with h | ⟨b,anc,e,h⟩
 ·exact .inl h
 ·exact .inr ⟨b,anc,e,by unfold hstk; rw [h]⟩
theorem A58.toRo {H:A0} {k:Nat} {v:AV} {rows:List (List AV)} (h:A58 H k v rows):A58 (H.map AO.toRo) k v rows:= by
 rcases h with h | ⟨b,anc,e,h⟩
 ·exact .inl h
 ·exact .inr ⟨b,anc,e,by rw [A60]; exact h⟩
theorem A58.app {H L:A0} {k:Nat} {v:AV} {rows:List (List AV)} (h:A58 H k v rows):A58 (H++L) k v rows:= by
 rcases h with h | ⟨b,anc,e,h⟩
 ·exact .inl h
 ·exact .inr ⟨b,anc,e,by rw [A0s (List.getElem?_append_left (B4k h))]; exact h⟩
theorem A58.rd {H:A0} {k:Nat} {v:AV} {rows:List (List AV)} (h:A58 H k v rows):rd H v k rows:= by
 rcases h with ⟨rfl,rfl⟩ | ⟨b,anc,rfl,h2⟩
 ·exact ⟨rfl,rfl⟩
 ·have h1:=B5w h2
  exact ⟨by simp only [R6,h1,h2,Nat.beq_refl,if_true],by simp only [kOf,h1,h2,Option.map_some]⟩
theorem A58.lenM {α:Type} {g:α→List AV} {T:Tab} {s:B1} {H:A0} {c:Sc} {n0 k:Nat} {x:Opd} {v:AV} {e:List α} (h:A58 H k v (e.map g)) (hx:ev s x = some v):One T c n0 s H (.lenL x) (.lit (.int .i64 e.length)) H:=⟨0,by
 rcases h with ⟨rfl,h⟩ | ⟨b,anc,rfl,h2⟩
 ·have:e = []:=List.map_eq_nil_iff.1 h
  subst this
  simp only [core,prim,hx,List.length_nil]
 ·have h1:=B5w h2
  simp only [core,prim,hx,h1,h2,List.length_map,if_true]⟩
end Am
namespace Ds
open Go Am Go.Proofs.Ytdkflofgolehkaa.Cd
theorem B55 {c:Sc} {H:A0} {f:AV} {a0:dress_plan} {r:((Ar4 Int) × Int)} (h:M1 a0 = some r) :
  F2 tab c H (.fn (.func 75) [] []) [(.agg (cP f a0))] [(.agg ((V1 cI) r.1)),.i r.2]:= by
 unfold M1 at h
 refine cE rfl rfl<|sg 0 rfl<|A1 (H8 (cs:=cP f a0) rfl rfl rfl) rfl<|A1 D9 rfl<|qm rfl<|es (ra3 rfl rfl rfl)<|C1<|s0<|A1 (D6 rfl) rfl<|A1 (G1 (ds:=(V1 cI) a0.left_) rfl rfl rfl rfl) rfl<|qm rfl<|es (ra4 rfl rfl rfl rfl)<|C6<|oB h fun o7 ho7 h=>wl (fun s1=>[(2,(.ptr (H.length + 1) 0)),(3,.i s1.1),(7,(.agg ((V1 cI) a0.left_))),(8,.i s1.2.1)]) (fun (q2:Unit) s1=>[(.cells (cP f a0)),(.cells ((V1 cI) s1.2.2))]) 2 (fun r e s' H'=>PX 0 [(2,(.ptr (H.length + 1) 0)),(3,.i r.1)] (H++[(.cells (cP f a0)),(.cells ((V1 cI) r.2))]) e s' H') () ho7 rfl rfl (fun _ _=>rfl) (fun _=>rfl) rfl (fun s1=>(bdc (F3 rfl) (bdc A9 (bdc (T9 rfl) (bdc A9 bdn))))) (fun q2 s1 ys1 hs1=>?_) ?_
 ·unfold W1 at hs1
  refine s0<|A1 (L8 rfl rfl) rfl<|es (ra5 rfl rfl rfl rfl rfl)<|C1<|wi hs1 rfl (fun hc3 hs1=>?_) fun hc3 hs1=>?_
  ·refine C9<|C1<|C6<|s0<|oB hs1 fun x4 hx4 hs1=>qm rfl<|A1 (B08 (f:=cI) (g:=fun n=>(.i n)) (e:=Ar4.l a0.left_) (fun _=>rfl) rfl rfl rfl rfl hx4) rfl<|qm rfl<|qm rfl<|es (ra6 rfl rfl rfl rfl rfl rfl)<|s0<|oB hs1 fun x5 hx5 hs1=>qm rfl<|qm rfl<|A1 (C59 rfl rfl) rfl<|A1 (C75 rfl rfl) rfl<|A1 (A2d (e:=Ar4.l s1.2.2) rfl rfl rfl hx5) rfl<|F8 (A4e (f:=cI) (e:=Ar4.l s1.2.2) (e2:=Ar4.l (Ar4.set s1.2.2 s1.2.1 (A9n 0 (w64 (0 - x4))))) (z:=(A9n 0 (w64 (0 - x4)))) (ds:=((V1 cI) (Ar4.set s1.2.2 s1.2.1 (A9n 0 (w64 (0 - x4)))))) rfl rfl rfl rfl rfl rfl (fun _=>rfl) hx5 (Ar4.set_l hx5) rfl (C0 rfl)) rfl<|es (ra5 rfl rfl rfl rfl rfl)<|r0<|oB hs1 fun x6 hx6 hs1=>qm rfl<|qm rfl<|A1 (A2d (e:=Ar4.l (Ar4.set s1.2.2 s1.2.1 (A9n 0 (w64 (0 - x4))))) rfl rfl rfl hx6) rfl<|A1 (A4d (f:=cI) (g:=fun n=>(.i n)) (e:=Ar4.l (Ar4.set s1.2.2 s1.2.1 (A9n 0 (w64 (0 - x4))))) (fun _=>rfl) rfl (D2 rfl) rfl hx6) rfl<|A1 (G9 rfl rfl) rfl<|qm rfl<|en (ra4 rfl rfl rfl rfl)<|r0<|A1 (G9 rfl rfl) rfl<|qm rfl<|en (ra4 rfl rfl rfl rfl) ?_
   cases hs1
   exact lnT () rfl (su4 rfl rfl rfl rfl)
  ·refine I5 ?_
   obtain rfl:=os hs1
   exact lx rfl px (su2 rfl rfl)
 ·rintro e s' H' - ⟨rfl,rfl,rfl⟩
  refine s0<|A1 (C5 rfl rfl rfl) rfl<|qm rfl<|F8 (C4 (ds:=((V1 cI) o7.2)) rfl rfl rfl rfl (C0 rfl) rfl) rfl<|qm rfl<|es (ra2 rfl rfl)<|D0 ?_
  obtain rfl:=os h
  exact retq trivial (L7 (G1 (ds:=(V1 cI) o7.2) rfl rfl rfl rfl) (B3 rfl B6)) (A8 (W2 rfl) (A8 rfl B9)) (A5 (T9 rfl) (A5 A9 B4))
theorem B0b {c:Sc} {H:A0} {f:AV} {a0:dress_plan} {r:Bool} (h:M0 a0 = some r) :
  F2 tab c H (.fn (.func 60) [] []) [(.agg (cP f a0))] [.b r]:= by
 unfold M0 at h
 refine cE rfl rfl<|sg 0 rfl<|A1 (H8 (cs:=cP f a0) rfl rfl rfl) rfl<|qm rfl<|es (ra1 rfl)<|sg 1 rfl<|oB h fun x1 hx1 h=>A1 (C5 rfl rfl rfl) rfl<|R8 (O4 (rs':=[(.agg ((V1 cI) x1.1)),.i x1.2]) rfl rfl (B55 hx1).1 rfl) rfl<|qm rfl<|A1 (A6 rfl rfl) rfl<|A1 (A6 rfl rfl) rfl<|A1 D9 rfl<|F8 (C4 (ds:=((V1 cI) x1.1)) rfl rfl rfl rfl (C0 rfl) rfl) rfl<|qm rfl<|es (ra1 rfl)<|s0<|A1 (C5 rfl rfl rfl) rfl<|A1 (I4 (cs:=(V1 cI) (Ar4.mk 0 0 0 0)) rfl rfl) rfl<|A1 (B8c (a:=(V1 cI) x1.1) (b:=(V1 cI) (Ar4.mk 0 0 0 0)) rfl rfl rfl rfl (S0 (S0 (S0 (S0 B4g))))) rfl<|qm rfl<|es (ra1 rfl)<|D0 ?_
 obtain rfl:=os h
 exact retq trivial (B3 rfl B6) (A8 rfl B9) (A5 A9 B4)
theorem C24 {c:Sc} {H:A0} {f:AV} {a0:dress_plan} {r:dress_plan} (hs:A58 H 1 f (a0.figures_.map cI)) (h:A09 a0 = some r) :
  T3 tab c H (.fn (.func 73) [] []) [(.agg (cP f a0))] [(.agg (A2 r))]:= by
 unfold A09 at h
 refine cF rfl rfl<|sg 0 rfl<|A1 (H8 (cs:=cP f a0) rfl rfl rfl) rfl<|A1 D9 rfl<|es (ra2 rfl rfl)<|sg 2 rfl<|oB h fun x1 hx1 h=>A1 (D6 rfl) rfl<|A1 (D5 (x:=f) rfl rfl rfl) rfl<|A1 (hs.app.lenM rfl) rfl<|A1 (B3m (f:=cI) rfl rfl rfl hx1) rfl<|qm rfl<|es (ra3 rfl rfl rfl)<|s0<|qm rfl<|A1 (D6 rfl) rfl<|A1 (D5 (x:=f) rfl rfl rfl) rfl<|R8 (B9u (f:=cI) rfl rfl rfl rfl hs.app.rd (fun _=>rfl)) rfl ?_
 rw [show List.length x1 = List.length (cpy x1 a0.figures_) from (B0e _ _).symm]
 refine es (ra3 rfl rfl rfl)<|s0<|qm rfl<|A1 (D6 rfl) rfl<|F8 (C4 (ds:=[(.asl (H.length + 2) (List.length (cpy x1 a0.figures_))),.i a0.cost_,.i a0.left_.x0,.i a0.left_.x1,.i a0.left_.x2,.i a0.left_.x3]) rfl rfl rfl rfl (N4 (Nat.le_add_right _ _)) rfl) rfl<|es (ra2 rfl rfl)<|s0<|A1 (G1 (ds:=[(.asl (H.length + 2) (List.length (cpy x1 a0.figures_))),.i a0.cost_,.i a0.left_.x0,.i a0.left_.x1,.i a0.left_.x2,.i a0.left_.x3]) rfl rfl rfl rfl) rfl<|F8 (C4 (ds:=[(.asl (H.length + 2) (List.length (cpy x1 a0.figures_))),.i a0.cost_,.i a0.left_.x0,.i a0.left_.x1,.i a0.left_.x2,.i a0.left_.x3]) rfl rfl rfl rfl (N4 (Nat.le_add_right _ _)) rfl) rfl<|es (ra1 rfl)<|D0 ?_
 obtain rfl:=os h
 exact ⟨_,retq trivial (L7 (G1 (ds:=[(.asl (H.length + 2) (List.length (cpy x1 a0.figures_))),.i a0.cost_,.i a0.left_.x0,.i a0.left_.x1,.i a0.left_.x2,.i a0.left_.x3]) rfl rfl rfl rfl) B6) (A8 (B9z (X1 (C2v rfl (List.length_map _)) (X1 rfl (X1 rfl (X1 rfl (X1 rfl (X1 rfl C2u))))))) B9) (A5 (T9 rfl) B4),rfl⟩
end Ds
end
section
set_option maxRecDepth 100000
namespace Am
open Go
theorem B6k {c:Sc} {b a n:Nat} (h:a < b):c.okL b [.asl a n] = true:= by
 have key:∀B,(Nat.ble B b || Nat.blt a B) = true:=fun B=>by
  by_cases hB:B≤b
  ·rw [Nat.ble_eq_true_of_le hB]; rfl
  ·rw [show Nat.blt a B = true from Nat.ble_eq_true_of_le (by omega),Bool.or_true]
 have h2:(c.outer.all fun B=>Nat.ble B b || Nat.blt a B) = true:=List.all_eq_true.2 fun B _=>key B
 have h3:=key c.cur
 simp only [Sc.okL,Sc.ok,AV.plain,AV.bd,h2,h3,Bool.or_false,Bool.and_true,Bool.or_true]
end Am
namespace Ds
open Go Am Go.Proofs.Ytdkflofgolehkaa.Cd
def B4x (x:dress_plan) (s:List dress_plan):Option (List dress_plan ⊕ Unit) :=
 (M0 x).bind fun g =>
 if g = true then
  (A09 x).bind fun q =>
  (app 64 s [q]).bind fun s' =>
  some (.inl s')
 else some (.inl s)
def T4 (t:DrRoom) (ch:Chg) (persons:Int):Option (List dress_plan) :=
 (A95 t ch persons (List dress_plan) Unit B4x []).bind fun o =>
 match o with
 | .inl l=>some l
 | .inr _=>none
def R9 (N b:Nat) (persons:Int) (s:List dress_plan):List AO:=[.arr 6 false (s.map A2),.cells [.asl (N + 0) s.length],.cells [.ptr b 0],.cells [.i persons]]
theorem B4y {c:Sc} {H:A0} {b:Nat} {t:DrRoom} {ch:Chg} {persons:Int} {r:List dress_plan} (hr:A3u H b t ch) (hscv:O5 c H = true) (h:T4 t ch persons = some r) :
  T3 tab c H (.fn (.func 65) [] []) [.ptr b 0,.i persons] [.seq 6 (r.map A2)]:= by
 unfold T4 at h
 refine cF rfl rfl<|sg 0 rfl<|A1 B6e rfl<|es (ra3 rfl rfl rfl)<|C1<|s0<|qm rfl<|qm rfl<|A0f (as2:=[.ptr b 0,.i persons]) (H1:=(H++[.arr 6 false [],.cells [.asl (H.length + 0) 0]])) rfl rfl (A4 rfl (A4 rfl B8)) rfl rfl rfl (A3g rfl)<|sg 2 rfl<|A1 (H8 (cs:=[.ptr b 0]) rfl rfl rfl) rfl<|A1 (H8 (cs:=[.i persons]) rfl rfl rfl) rfl<|qm rfl<|es (ra2 rfl rfl)<|s0<|A1 (A3j rfl rfl) rfl<|qm rfl<|es (ra1 rfl)<|D0<|InlQ.mk trivial ⟨_,_,_,[(.fn (.func 100) [] [(.ptr (H.length + 2) 0),(.ptr (H.length + 3) 0)])],_,(B3 rfl B6),(A8 rfl B9),(A3f (Y7 (C1p (Y7 (A20 rfl)))) (I0 rfl Z4)),?_⟩
 refine es (ra2 rfl rfl)<|C6<|oB h fun o8 ho8 h=>B7e (σ:=List dress_plan) (ρ:=Unit) (k:=4) (body:=B4x) (sh:=shP) (pre:=fun H1=>hcells H1 (H.length + 2) = some [.ptr b 0]∧hcells H1 (H.length + 3) = some [.i persons]∧A3u H1 b t ch) (B6t (t:=t) (ch:=ch) (persons:=persons) (b1:=H.length + 2) (b2:=H.length + 3) (b:=b)) [(4,(.ptr (H.length + 1) 0))] (R9 H.length b persons) (fun (_:Unit)=>R9 H.length b persons []) (fun _=>.ret) ho8 (fun _=>rfl) rfl (fun S hS=>K9 (live:=[4]) rfl (by decide) (Sub.trans (su1 rfl) hS)) rfl (fun _=>rfl) (fun _=>rfl) ⟨fun _ _=>⟨D2 rfl,D2 rfl,hr.app⟩,fun _ _=>⟨D2 rfl,D2 rfl,hr.app⟩⟩ (A2h hscv) (fun c x s o L v hsc hgr hv hbo y0 y1=>?_) ?_
 ·obtain ⟨f,rfl,hf⟩:=hv
  unfold B4x at hbo
  have hlm:∀(z:AO),(R9 H.length b persons s++z :: L).length = 5 + L.length:=fun z=>by simp [R9]; omega
  have hlen:(H++(R9 H.length b persons s++y0 :: L)).length = H.length + (5 + L.length):= by rw [List.length_append,hlm]
  have hfr:A3v (H++(R9 H.length b persons s++[y1])).length (L++[AO.cells (cP f x)]) f (x.figures_.map cI):= by
   rw [List.length_append]
   exact hf.app rfl
  have hsh:∀(M:A0),A58 (H++(R9 H.length b persons s++y1 :: (L++[AO.cells (cP f x)]))++M) 1 f (x.figures_.map cI):=fun M=>by
   have:=hfr.shr.toR.app (L:=M)
   simpa using this
  have hg:∀s',(H++(R9 H.length b persons s'++y1 :: (L++[AO.cells (cP f x)]))).length = H.length + (5 + L.length + 1):=fun s'=>by simp [R9]; omega
  refine Y5 (Q:=fun e s1 H1=>e = .normal∧Sub [(4,(.ptr (H.length + 1) 0)),(5,(.ptr (H.length + (5 + L.length)) 0))] s1∧H1 = H++(R9 H.length b persons s++y0 :: (L++[AO.cells (cP f x)]))) ?_ ?_
  ·have key:WP tab (.region false 1 [] [⟨some 5,.alloc [.seq 1 [],.i 0,.i 0,.i 0,.i 0,.i 0] [] 0,none,[],[],0,0⟩,⟨none,.store 6 (.t 5) (.t 9),none,[],[],0,1⟩] [4,5]) [(9,.agg (cP f x)),(4,(.ptr (H.length + 1) 0))] (H++(R9 H.length b persons s++y0 :: L)++[]) ⟨H.length + (4 + 1 + L.length),c⟩ (fun e s1 H1=>e = .normal∧Sub [(4,(.ptr (H.length + 1) 0)),(5,(.ptr (H.length + (5 + L.length)) 0))] s1∧H1 = H++(R9 H.length b persons s++y0 :: (L++[AO.cells (cP f x)]))):= by
    refine rg 0 rfl<|A1 D9 rfl<|F8 (C4 (ds:=cP f x) rfl rfl rfl rfl (N4 ?_) rfl) rfl<|en (ra2 rfl rfl) ⟨rfl,?_,?_⟩
    ·show H.length + (4 + 1 + L.length)≤(H++(R9 H.length b persons s++y0 :: L)).length + 0
     rw [hlen]; omega
    ·rw [← hlen]; exact su2 rfl rfl
    ·show H++(R9 H.length b persons s++y0 :: L)++[AO.cells (cP f x)] = _
     simp
   rw [List.append_nil] at key
   exact key
  ·rintro e s1 H1 ⟨rfl,hsub,rfl⟩
   refine ⟨_,rfl,rfl,rfl,fun S hS=>?_⟩
   refine (?_:WP tab _ [(4,(.ptr (H.length + 1) 0)),(5,(.ptr (H.length + (5 + L.length)) 0))] (H++(R9 H.length b persons s++y1 :: (L++[AO.cells (cP f x)]))) _ _) S (Sub.trans hsub hS)
   have hpb:∀s',(R9 H.length b persons s'++y1 :: (L++[AO.cells (cP f x)]))[5 + L.length]? = some (.cells (cP f x)):=fun s'=>by
    have hl5:(R9 H.length b persons s'++y1 :: L).length = 5 + L.length:= by simp [R9]; omega
    rw [show R9 H.length b persons s'++y1 :: (L++[AO.cells (cP f x)]) = (R9 H.length b persons s'++y1 :: L)++[AO.cells (cP f x)] by simp,List.getElem?_append_right (by rw [hl5]; exact Nat.le_refl _),hl5,Nat.sub_self]; rfl
   have htk:∀s',(R9 H.length b persons s'++y1 :: (L++[AO.cells (cP f x)])).take (4 + 1 + L.length) = R9 H.length b persons s'++y1 :: L:=fun s'=>by
    have hl5:(R9 H.length b persons s'++y1 :: L).length = 4 + 1 + L.length:= by simp [R9]; omega
    rw [show R9 H.length b persons s'++y1 :: (L++[AO.cells (cP f x)]) = (R9 H.length b persons s'++y1 :: L)++[AO.cells (cP f x)] by simp,← hl5]
    exact List.take_left
   refine oB hbo fun g hg1 hbo=>?_
   refine C6<|s0<|A1 (G1 (ds:=cP f x) rfl (hpb _) rfl rfl) rfl<|R8 (O4 (rs':=[.b g]) rfl rfl (B0b hg1).1 rfl) rfl<|es (ra3 rfl rfl rfl)<|wi hbo rfl (fun hc hbo=>?_) fun hc hbo=>?_
   ·refine oB hbo fun q hq hbo=>oB hbo fun s' hs' hbo=>?_
    have hsh0:=(hsh []).toRo
    rw [List.append_nil] at hsh0
    refine r0<|A1 (D5 (x:=.asl (H.length + 0) s.length) rfl rfl rfl) rfl<|A1 (G1 (ds:=cP f x) rfl (hpb _) rfl rfl) rfl<|A1 (A5y rfl rfl (C24 hsh0 hq)) rfl<|A1 (I2 (rows:=List.map A2 [q]) rfl rfl (E0 (fun _=>rfl) _)) rfl<|R8 (B06 (f:=A2) rfl rfl rfl rfl A4i (fun _=>rfl) hs') rfl<|F8 (C4 (ds:=[.asl (H.length + 0) s'.length]) rfl rfl rfl rfl (B6k (Nat.lt_succ_self _)) rfl) rfl<|en .n ?_
    cases hbo
    exact ⟨_,rfl,rfl,htk _⟩
   ·refine C9 ?_
    cases hbo
    exact ⟨_,rfl,rfl,htk _⟩
 ·rcases o8 with l8 | l8
  ·refine s0<|A1 (D5 (x:=.asl (H.length + 0) l8.length) rfl rfl rfl) rfl<|F8 (C4 (ds:=[.asl (H.length + 0) l8.length]) rfl rfl rfl rfl (N4 (Nat.le_add_right _ _)) rfl) rfl<|es (ra1 rfl)<|D0 ?_
   obtain rfl:=os h
   exact ⟨[.fresh 6 (l8.map A2)],retq trivial (L7 (D5 (x:=.asl (H.length + 0) l8.length) rfl rfl rfl) B6) (A8 (A50 rfl (List.length_map _)) B9) (A5 rfl B4),rfl⟩
  ·cases h
end Ds
end
section
set_option maxRecDepth 100000
namespace Ds
open Go Am Go.Proofs.Ytdkflofgolehkaa.Cd
abbrev By:=List (Nat × (dress_plan→Option Int))
def Y8 (z:Nat × (dress_plan→Option Int)):List AV:=[.fn (.func z.1) [] []]
def B9m (bs:By) (p q:dress_plan) (i:Int):Option (Int ⊕ (Bool ⊕ Unit)) :=
 if (decide (i < (List.length bs:Int))) = true then
  (idx bs i).bind fun z=>(z.2 p).bind fun a=>(z.2 q).bind fun b =>
  if (a != b) = true then (z.2 p).bind fun a2=>(z.2 q).bind fun b2=>some (.inr (.inl (decide (a2 < b2))))
  else some (.inl (w64 (i + 1)))
 else some (.inr (.inr ()))
def B57 (bs:By) (p q:dress_plan):Option Bool :=
 (loop (B9m bs p q) 0).bind fun o =>
 match o with
 | .inl b=>some b
 | .inr _=>some false
def C5f (bs:By):Prop:=∀ z ∈ bs,∀ (p:dress_plan) (r:Int) (c:Sc) (H:A0),z.2 p = some r→T3 tab c H (.fn (.func z.1) [] []) [.agg (A2 p)] [.i r]
theorem B38 {N:Nat}:∀bs:By,bdR N (bs.map Y8) = true
 | []=>rfl
 | z :: bs=>by simp only [List.map_cons,Y8,bdR,bdL,AV.bd,B38 bs,Bool.and_self]
theorem B9n {c:Sc} {H:A0} {bs:By} (hbs:C5f bs) {p q:dress_plan} {r:Bool} (h:B57 bs p q = some r) :
  F2 tab c H (.fn (.func 78) [] []) [.agg [.xseq 1 (bs.map Y8)],.agg (A2 p),.agg (A2 q)] [.b r]:= by
 unfold B57 at h
 refine oB h fun o ho h=>?_
 refine cE rfl rfl<|sg 0 rfl<|A1 (H8 (cs:=[.xseq 1 (bs.map Y8)]) rfl rfl rfl) rfl<|A1 (H8 (cs:=A2 p) rfl rfl rfl) rfl<|A1 (H8 (cs:=A2 q) rfl rfl rfl) rfl<|qm rfl<|es (ra3 rfl rfl rfl)<|C1<|s0<|A1 (D6 rfl) rfl<|A1 (D5 (x:=.xseq 1 (bs.map Y8)) rfl rfl rfl) rfl<|A1 (C56 (n:=(List.length bs:Int)) rfl (by rw [List.length_map])) rfl<|qm rfl<|es (ra5 rfl rfl rfl rfl rfl)<|C6<|wl (fun i=>[(4,(.ptr (H.length + 1) 0)),(5,(.ptr (H.length + 2) 0)),(10,.xseq 1 (bs.map Y8)),(11,(.i (List.length bs:Int))),(12,.i i)]) (fun (_:Unit) _=>[.cells [.xseq 1 (bs.map Y8)],.cells (A2 p),.cells (A2 q)]) 3 (fun r e s' H'=>H' = H++[.cells [.xseq 1 (bs.map Y8)],.cells (A2 p),.cells (A2 q)]∧match r with | .inl b=>e = .ret∧s' = [(6,.b b)] | .inr _=>e = .exit 0∧s' = []) () ho rfl rfl (fun _ _=>rfl) (fun _=>rfl) rfl (fun i=>(bdc (F3 rfl) (bdc (F3 rfl) (bdc (C7g (B38 _)) (bdc A9 (bdc A9 bdn)))))) (fun _ i ys hs=>?_) ?_
 ·unfold B9m at hs
  refine s0<|A1 (L8 rfl rfl) rfl<|es (ra6 rfl rfl rfl rfl rfl rfl)<|C1<|wi hs rfl (fun hc hs=>?_) fun hc hs=>?_
  ·refine oB hs fun z hz hs=>oB hs fun a ha hs=>oB hs fun b hb hs=>?_
   have hm:z ∈ bs:=List.mem_of_getElem? (A9z hz).2
   have hrow:(if 0≤i then (bs.map Y8)[i.toNat]? else none) = some (Y8 z):= by
    unfold idx at hz
    split at hz
    ·next h0=>rw [if_pos h0,List.getElem?_map,hz]; rfl
    ·cases hz
   refine C9<|C1<|C6<|s0<|A1 (C53 rfl rfl hrow) rfl<|A1 (S6 (x:=.fn (.func z.1) [] []) rfl rfl) rfl<|qm rfl<|es (ra6 rfl rfl rfl rfl rfl rfl)<|s0<|qm rfl<|A1 (C5 rfl rfl rfl) rfl<|W7 (rs:=[.i a]) rfl rfl (J8 rfl A00) (A4 (E4 rfl) B8) (hbs z hm p a _ _ ha)<|qm rfl<|A1 (C5 rfl rfl rfl) rfl<|C2 (rs:=[.i b]) rfl rfl (A4 (E4 rfl) B8) (hbs z hm q b _ _ hb)<|A1 (R1 rfl rfl) rfl<|es (ra7 rfl rfl rfl rfl rfl rfl rfl)<|wi hs rfl (fun hc2 hs=>?_) fun hc2 hs=>?_
   ·refine oB hs fun a2 ha2 hs=>oB hs fun b2 hb2 hs=>?_
    refine s0<|qm rfl<|A1 (C5 rfl rfl rfl) rfl<|W7 (rs:=[.i a2]) rfl rfl (J8 rfl A00) (A4 (E4 rfl) B8) (hbs z hm p a2 _ _ ha2)<|qm rfl<|A1 (C5 rfl rfl rfl) rfl<|C2 (rs:=[.i b2]) rfl rfl (A4 (E4 rfl) B8) (hbs z hm q b2 _ _ hb2)<|A1 (L8 rfl rfl) rfl<|qm rfl<|es (ra1 rfl)<|D0 ?_
    obtain rfl:=os hs
    exact lx rfl ⟨rfl,rfl,rfl⟩ (Sub.refl _)
   ·refine C9<|r0<|A1 (G9 rfl rfl) rfl<|qm rfl<|en (ra5 rfl rfl rfl rfl rfl) ?_
    cases hs
    exact lnT () rfl (su5 rfl rfl rfl rfl rfl)
  ·refine I5 ?_
   obtain rfl:=os hs
   exact lx rfl ⟨rfl,rfl,rfl⟩ (Sub.nil _)
 ·rintro e s' H' - ⟨rfl,q2⟩
  rcases o with b | b
  ·obtain ⟨rfl,rfl⟩:=q2
   cases h
   show RetQ _ _ _ _ _ _
   exact retq trivial (B3 rfl B6) (A8 rfl B9) (A5 A9 B4)
  ·obtain ⟨rfl,rfl⟩:=q2
   cases h
   refine s0<|qm rfl<|es (ra1 rfl)<|D0 ?_
   exact retq trivial (B3 rfl B6) (A8 rfl B9) (A5 A9 B4)
end Ds
end
section
set_option maxRecDepth 100000
set_option maxHeartbeats 0
namespace Ds
open Go Am Go.Proofs.Ytdkflofgolehkaa.Cd
def V7 (a0:(List dress_plan)) (g1:((dress_plan × dress_plan)→Option Bool)) (s1:(Bool × Int × dress_plan)):Option ((Bool × Int × dress_plan) ⊕ (Bool × dress_plan)) :=
 if (decide (s1.2.1 < (List.length a0:Int))) = true then
  (idx a0 s1.2.1).bind fun x4 =>
  (if (s1.2.1 == 0) = true then
  some true
  else
  (g1 (x4,s1.2.2)).bind fun x6 =>
  some x6).bind fun x7 =>
  if x7 = true then
  some (.inl (true,(w64 (s1.2.1 + 1)),x4))
  else
  some (.inl (s1.1,(w64 (s1.2.1 + 1)),s1.2.2))
 else
  some (.inr (s1.1,s1.2.2))
def N9 (a0:(List dress_plan)) (g1:((dress_plan × dress_plan)→Option Bool)):Option (dress_plan × Bool) :=
 (loop (V7 a0 g1) (false,0,(dress_plan.mk ([]:List Int) 0 (Ar4.mk 0 0 0 0)))).bind fun (o9:(Bool × dress_plan)) =>
 some (o9.2,o9.1)
theorem V8 {c:Sc} {H:A0} {a0:(List dress_plan)} {g1:(dress_plan × dress_plan)→Option Bool} {g1_i:Nat} {g1_f g1_c:List AV} (g1_h:Impl tab H g1_i g1_f g1_c g1 (fun y=>[(.agg (A2 y.1)),(.agg (A2 y.2))]) (fun y=>[.b y])) {r:(dress_plan × Bool)} (h:N9 a0 g1 = some r) :
  F2 tab c H (.fn (.func 77) [] []) [(.seq 6 (List.map A2 a0)),.fn (.func g1_i) g1_f g1_c] [(.agg (A2 r.1)),.b r.2]:= by
 unfold N9 at h
 refine cE rfl rfl<|sg 0 rfl<|A1 D9 rfl<|qm rfl<|es (ra4 rfl rfl rfl rfl)<|C1<|s0<|qm rfl<|A1 (E6 (f:=A2) rfl) rfl<|qm rfl<|es (ra6 rfl rfl rfl rfl rfl rfl)<|C6<|oB h fun o9 ho9 h=>wl (fun s1=>[(1,(.fn (.func g1_i) g1_f g1_c)),(4,(.ptr (H.length + 0) 0)),(5,.b s1.1),(8,(.seq 6 (List.map A2 a0))),(9,(.i (List.length a0:Int))),(10,.i s1.2.1)]) (fun (q2:Unit) s1=>[(.cells (A2 s1.2.2))]) 1 (fun r e s' H'=>PX 0 [(4,(.ptr (H.length + 0) 0)),(5,.b r.1)] (H++[(.cells (A2 r.2))]) e s' H') () ho9 rfl rfl (fun _ _=>rfl) (fun _=>rfl) rfl (fun s1=>(bdc (C1o g1_h.1) (bdc (F3 rfl) (bdc A9 (bdc G3 (bdc A9 (bdc A9 bdn))))))) (fun q2 s1 ys1 hs1=>?_) ?_
 ·unfold V7 at hs1
  refine s0<|A1 (L8 rfl rfl) rfl<|es (ra7 rfl rfl rfl rfl rfl rfl rfl)<|C1<|wi hs1 rfl (fun hc3 hs1=>?_) fun hc3 hs1=>?_
  ·refine C9<|C1<|C6<|sg 1 rfl<|oB hs1 fun x4 hx4 hs1=>qm rfl<|A1 (L4 (f:=A2) rfl rfl hx4) rfl<|A1 (Q0 rfl rfl) rfl<|A1 D9 rfl<|qm rfl<|F8 (C4 (ds:=(A2 x4)) rfl rfl rfl rfl (C0 rfl) rfl) rfl<|es (ra8 rfl rfl rfl rfl rfl rfl rfl rfl)<|s0<|oB hs1 fun x7 hx7 hs1=>qm rfl<|A1 (J3 rfl rfl) rfl<|qm rfl<|gp 5 22 (.b x7) 17 rfl rfl (fun hg5=>?_) (fun hg5=>?_) ?_
   ·obtain rfl:=os (bt hx7 hg5)
    exact nF rfl hg5 rfl<|nF rfl hg5 rfl<|nF rfl hg5 rfl<|S8 (K8 rfl (by rw [hg5]; rfl)) rfl<|A1 (D8 rfl hg5 rfl) rfl<|ge 5 rfl rfl rfl
   ·refine oB (bf hx7 hg5) fun x6 hx6 hx7=>?_
    obtain rfl:=os hx7
    exact gF rfl hg5<|qm rfl<|gF rfl hg5<|A1 (C5 rfl rfl rfl) rfl<|gF rfl hg5<|A1 (C5 rfl rfl rfl) rfl<|gF rfl hg5<|C2 (rs:=[.b x6]) rfl rfl (A4 (E4 rfl) (A4 (E4 rfl) B8)) (Impl.call g1_h hx6 _)<|A1 (D7 rfl hg5 rfl) rfl<|ge 5 rfl rfl rfl
   refine es (ra8 rfl rfl rfl rfl rfl rfl rfl rfl)<|wi hs1 rfl (fun hc8 hs1=>?_) fun hc8 hs1=>?_
   ·refine r0<|A1 (C5 rfl rfl rfl) rfl<|F8 (C4 (ds:=(A2 x4)) rfl rfl rfl rfl (C0 rfl) rfl) rfl<|qm rfl<|en (ra6 rfl rfl rfl rfl rfl rfl)<|r0<|A1 (G9 rfl rfl) rfl<|qm rfl<|en (ra6 rfl rfl rfl rfl rfl rfl) ?_
    cases hs1
    exact lnT () rfl (su6 rfl rfl rfl rfl rfl rfl)
   ·refine C9<|r0<|A1 (G9 rfl rfl) rfl<|qm rfl<|en (ra6 rfl rfl rfl rfl rfl rfl) ?_
    cases hs1
    exact lnT () rfl (su6 rfl rfl rfl rfl rfl rfl)
  ·refine I5 ?_
   obtain rfl:=os hs1
   exact lx rfl px (su2 rfl rfl)
 ·rintro e s' H' - ⟨rfl,rfl,rfl⟩
  refine s0<|A1 (C5 rfl rfl rfl) rfl<|qm rfl<|F8 (C4 (ds:=(A2 o9.2)) rfl rfl rfl rfl (C0 rfl) rfl) rfl<|qm rfl<|es (ra2 rfl rfl)<|D0 ?_
  obtain rfl:=os h
  exact retq trivial (L7 (G1 (ds:=A2 o9.2) rfl rfl rfl rfl) (B3 rfl B6)) (A8 (W2 rfl) (A8 rfl B9)) (A5 (T9 rfl) (A5 A9 B4))
def Z1 (a0:dress_plan):Option Int :=
 some a0.cost_
theorem A4f {c:Sc} {H:A0} {a0:dress_plan} {r:Int} (h:Z1 a0 = some r) :
  F2 tab c H (.fn (.func 94) [] []) [(.agg (A2 a0))] [.i r]:= by
 unfold Z1 at h
 refine cE rfl rfl<|sg 0 rfl<|A1 (H8 (cs:=A2 a0) rfl rfl rfl) rfl<|qm rfl<|es (ra1 rfl)<|s0<|A1 (D6 rfl) rfl<|A1 (D5 rfl rfl rfl) rfl<|qm rfl<|es (ra1 rfl)<|D0 ?_
 obtain rfl:=os h
 exact retq trivial (B3 rfl B6) (A8 rfl B9) (A5 A9 B4)
end Ds
end
section
set_option maxRecDepth 100000
namespace Ds
open Go Am Go.Proofs.Ytdkflofgolehkaa.Cd
def by1:By:=[(94,Z1)]
theorem C5j:C5f by1:= by
 intro z hz p r c H h
 obtain rfl:=List.mem_singleton.1 hz
 exact (A4f h).frz
def P4 (t:DrRoom) (ch:Chg) (persons:Int):Option (dress_plan × Bool) :=
 (T4 t ch persons).bind fun l =>
 N9 l (fun y=>B57 by1 y.1 y.2)
theorem C3e {c:Sc} {H:A0} (h:O5 c H = true):O5 c (H.map AO.toRo) = true:= by
 unfold O5 at h ⊢; rw [List.length_map]; exact h
theorem A9s {c:Sc} {H:A0} {b:Nat} {t:DrRoom} {ch:Chg} {persons:Int} {r:dress_plan × Bool} (hr:A3u H b t ch) (hscv:O5 c H = true) (h:P4 t ch persons = some r) :
  T3 tab c H (.fn (.func 61) [] []) [.ptr b 0,.i persons] [.agg (A2 r.1),.b r.2]:= by
 unfold P4 at h
 refine oB h fun l hl h=>?_
 refine cF rfl rfl<|sg 0 rfl<|A1 D9 rfl<|qm rfl<|es (ra3 rfl rfl rfl)<|sg 1 rfl<|A1 (B9v (rows:=by1.map Y8) rfl rfl) rfl<|A1 (I4 (cs:=[.xseq 1 (by1.map Y8)]) rfl rfl) rfl<|A1 D9 rfl<|F8 (C4 (ds:=[.xseq 1 (by1.map Y8)]) rfl rfl rfl rfl (N4 (Nat.le_add_right _ _)) rfl) rfl<|es (ra4 rfl rfl rfl rfl)<|s0<|qm rfl<|qm rfl<|W7 (rs:=[.seq 6 (l.map A2)]) rfl rfl (J8 rfl (J8 rfl A00)) (A4 rfl (A4 rfl B8)) (B4y hr.app.toRo (C3e (A2h hscv)) hl)<|A1 (C5 rfl rfl rfl) rfl<|A1 (A3j rfl rfl) rfl<|C2 (rs:=[.agg (A2 r.1),.b r.2]) rfl rfl (A4 rfl (A4 rfl B8)) (V8 ?_ h).frz<|A1 (A6 rfl rfl) rfl<|A1 (A6 rfl rfl) rfl<|F8 (C4 (ds:=A2 r.1) rfl rfl rfl rfl (C0 rfl) rfl) rfl<|qm rfl<|es (ra2 rfl rfl)<|D0 ?_
 ·refine ⟨⟨?_,rfl⟩,fun H' _ _ c x r' e=>?_⟩
  ·simp only [bdL,AV.bd,B38,Bool.and_self]
  ·exact (A3y (a:=[.agg [.xseq 1 (by1.map Y8)]]) (B9n C5j e)).frz
 ·exact ⟨_,retq trivial (L7 (G1 (ds:=A2 r.1) rfl rfl rfl rfl) (B3 rfl B6)) (A8 (W2 rfl) (A8 rfl B9)) (A5 (T9 rfl) (A5 A9 B4)),rfl⟩
end Ds
end
section
set_option maxRecDepth 100000
set_option maxHeartbeats 0
namespace Ds
open Go Am Go.Proofs.Ytdkflofgolehkaa.Cd
def A46 (a0:DrRoom) (s3:(Int × (List (dress_pair × dress_change)))) (x6:DrLook) (s7:(Int × (List (dress_pair × dress_change)))):Option ((Int × (List (dress_pair × dress_change))) ⊕ (List (dress_pair × dress_change))) :=
 if (decide (s7.1 < (List.length a0.Persons:Int))) = true then
  (idx a0.Persons s7.1).bind fun x10 =>
  (N2 (dress_room.mk a0) x6 x10).bind fun x11 =>
  some (.inl ((w64 (s7.1 + 1)),(kset s7.2 (dress_pair.mk s3.1 s7.1) x11)))
 else
  some (.inr s7.2)
def A47 (a0:DrRoom) (s3:(Int × (List (dress_pair × dress_change)))):Option ((Int × (List (dress_pair × dress_change))) ⊕ (List (dress_pair × dress_change))) :=
 if (decide (s3.1 < (List.length a0.Figures:Int))) = true then
  (idx a0.Figures s3.1).bind fun x6 =>
  (loop (A46 a0 s3 x6) (0,s3.2)).bind fun (o12:(List (dress_pair × dress_change))) =>
  some (.inl ((w64 (s3.1 + 1)),o12))
 else
  some (.inr s3.2)
def A26 (a0:DrRoom):Option ((List Int) × Int × Int) :=
 (L2 a0).bind fun x1 =>
 if (x1.2.2 != 0) = true then
  some (([]:List Int),0,x1.2.2)
 else
  (loop (A47 a0) (0,([]:(List (dress_pair × dress_change))))).bind fun (o13:(List (dress_pair × dress_change))) =>
  (J1 (dress_room.mk a0)).bind fun x14 =>
  (P4 a0 o13 x14).bind fun x15 =>
  if (!x15.2) = true then
  some (([]:List Int),0,9)
  else
  some (x15.1.figures_,x15.1.cost_,0)
theorem A5d {c:Sc} {H:A0} (hscv:O5 c H = true) {a0:DrRoom} {r:((List Int) × Int × Int)} (h:A26 a0 = some r) :
  F2 tab c H (.fn (.func 26) [] []) [(.agg (A7 a0))] [(.seq 1 (List.map cI r.1)),.i r.2.1,.i r.2.2]:= by
 unfold A26 at h
 refine cE rfl rfl<|sg 0 rfl<|A1 (H8 (cs:=A7 a0) rfl rfl rfl) rfl<|qm rfl<|qm rfl<|qm rfl<|es (ra1 rfl)<|s0<|A1 (C5 rfl rfl rfl) rfl<|A0f (as2:=[(.agg (A7 a0))]) (H1:=(H++[(.cells (A7 a0))])) rfl rfl (A4 (E4 rfl) B8) rfl rfl rfl (A3g rfl)<|sg 1 rfl<|A1 (H8 (cs:=A7 a0) rfl rfl rfl) rfl<|qm rfl<|qm rfl<|es (ra1 rfl)<|C1<|s0<|oB h fun x1 hx1 h=>A1 (C5 rfl rfl rfl) rfl<|C2 (rs:=[.i x1.1,.i x1.2.1,.i x1.2.2]) rfl rfl (A4 (E4 rfl) B8) ((R2 hx1).frz)<|qm rfl<|A1 (A6 rfl rfl) rfl<|A1 (A6 rfl rfl) rfl<|A1 (A6 rfl rfl) rfl<|qm rfl<|qm rfl<|qm rfl<|es (ra2 rfl rfl)<|s0<|qm rfl<|A1 (R1 rfl rfl) rfl<|es (ra3 rfl rfl rfl)<|wi h rfl (fun hc2 h=>?_) fun hc2 h=>?_
 ·refine s0<|qm rfl<|qm rfl<|qm rfl<|es (ra2 rfl rfl)<|D0<|InlQ.mk trivial ⟨_,_,_,[(.lit (.pointer none)),.i x1.2.2],_,(B3 rfl (B3 rfl B6)),(A8 rfl (A8 rfl B9)),(A5p (A5 A9 (A5 A9 B4)) (I0 rfl (I0 rfl Z4)) (T6 _ _ _)),?_⟩
  refine qm rfl<|A1 (A6 rfl rfl) rfl<|A1 (A6 rfl rfl) rfl<|qm rfl<|qm rfl<|es (ra2 rfl rfl)<|C1<|s0<|qm rfl<|A1 (R1 rfl rfl) rfl<|es (ra3 rfl rfl rfl)<|N5 rfl hc2<|s0<|qm rfl<|qm rfl<|qm rfl<|qm rfl<|es (ra3 rfl rfl rfl)<|D0 ?_
  obtain rfl:=os h
  exact retq trivial (B3 rfl (B3 rfl (B3 rfl B6))) (A8 rfl (A8 rfl (A8 rfl B9))) (A5 G3 (A5 A9 (A5 A9 B4)))
 ·refine C9<|sg 2 rfl<|A1 (C5 rfl rfl rfl) rfl<|A1 A66 rfl<|A1 (I4 (cs:=[(.seq 1 (List.map cI a0.Costs)),(.seq 1 (List.map cI a0.Ounces)),(.seq 3 (List.map A3 a0.Figures)),(.seq 3 (List.map A3 a0.Persons)),(.mp (H.length + 2))]) rfl rfl) rfl<|A1 (H8 (cs:=[(.seq 1 (List.map cI a0.Costs)),(.seq 1 (List.map cI a0.Ounces)),(.seq 3 (List.map A3 a0.Figures)),(.seq 3 (List.map A3 a0.Persons)),(.mp (H.length + 2))]) rfl rfl rfl) rfl<|qm rfl<|es (ra2 rfl rfl)<|C1<|s0<|A1 (D6 rfl) rfl<|A1 (D5 rfl rfl rfl) rfl<|A1 (E6 (f:=A3) rfl) rfl<|qm rfl<|es (ra5 rfl rfl rfl rfl rfl)<|C6<|oB h fun o13 ho13 h=>wl (fun s3=>[(1,(.ptr (H.length + 1) 0)),(7,(.ptr (H.length + 3) 0)),(26,(.seq 3 (List.map A3 a0.Figures))),(27,(.i (List.length a0.Figures:Int))),(28,.i s3.1)]) (fun (q4:Unit) s3=>[(.cells (A7 a0)),(.cells (A7 a0)),(.map (List.map (kE (fun x=>(.agg (C3 x))) (fun x=>(.agg (B2 x)))) s3.2)),(.cells [(.seq 1 (List.map cI a0.Costs)),(.seq 1 (List.map cI a0.Ounces)),(.seq 3 (List.map A3 a0.Figures)),(.seq 3 (List.map A3 a0.Persons)),(.mp (H.length + 2))])]) 4 (fun r e s' H'=>PX 0 [(7,(.ptr (H.length + 3) 0))] (H++[(.cells (A7 a0)),(.cells (A7 a0)),(.map (List.map (kE (fun x=>(.agg (C3 x))) (fun x=>(.agg (B2 x)))) r)),(.cells [(.seq 1 (List.map cI a0.Costs)),(.seq 1 (List.map cI a0.Ounces)),(.seq 3 (List.map A3 a0.Figures)),(.seq 3 (List.map A3 a0.Persons)),(.mp (H.length + 2))])]) e s' H') () ho13 rfl rfl (fun _ _=>rfl) (fun _=>rfl) rfl (fun s3=>(bdc (F3 rfl) (bdc (F3 rfl) (bdc G3 (bdc A9 (bdc A9 bdn)))))) (fun q4 s3 ys3 hs3=>?_) ?_
  ·unfold A47 at hs3
   refine s0<|A1 (L8 rfl rfl) rfl<|es (ra6 rfl rfl rfl rfl rfl rfl)<|C1<|wi hs3 rfl (fun hc5 hs3=>?_) fun hc5 hs3=>?_
   ·refine C9<|C1<|C6<|sg 4 rfl<|oB hs3 fun x6 hx6 hs3=>qm rfl<|A1 (L4 (f:=A3) rfl rfl hx6) rfl<|A1 (Q0 rfl rfl) rfl<|A1 D9 rfl<|qm rfl<|F8 (C4 (ds:=(A3 x6)) rfl rfl rfl rfl (C0 rfl) rfl) rfl<|es (ra7 rfl rfl rfl rfl rfl rfl rfl)<|s0<|A1 (D6 rfl) rfl<|A1 (D5 rfl rfl rfl) rfl<|A1 (E6 (f:=A3) rfl) rfl<|qm rfl<|es (ra10 rfl rfl rfl rfl rfl rfl rfl rfl rfl rfl)<|C6<|oB hs3 fun o12 ho12 hs3=>wl (fun s7=>[(1,(.ptr (H.length + 1) 0)),(7,(.ptr (H.length + 3) 0)),(8,.i s3.1),(9,(.ptr (H.length + 4) 0)),(26,(.seq 3 (List.map A3 a0.Figures))),(27,(.i (List.length a0.Figures:Int))),(28,.i s3.1),(34,(.seq 3 (List.map A3 a0.Persons))),(35,(.i (List.length a0.Persons:Int))),(36,.i s7.1)]) (fun (q8:Unit) s7=>[(.cells (A7 a0)),(.cells (A7 a0)),(.map (List.map (kE (fun x=>(.agg (C3 x))) (fun x=>(.agg (B2 x)))) s7.2)),(.cells [(.seq 1 (List.map cI a0.Costs)),(.seq 1 (List.map cI a0.Ounces)),(.seq 3 (List.map A3 a0.Figures)),(.seq 3 (List.map A3 a0.Persons)),(.mp (H.length + 2))]),(.cells (A3 x6))]) 5 (fun r e s' H'=>PX 2 [(1,(.ptr (H.length + 1) 0)),(7,(.ptr (H.length + 3) 0)),(26,(.seq 3 (List.map A3 a0.Figures))),(27,(.i (List.length a0.Figures:Int))),(28,.i s3.1)] (H++[(.cells (A7 a0)),(.cells (A7 a0)),(.map (List.map (kE (fun x=>(.agg (C3 x))) (fun x=>(.agg (B2 x)))) r)),(.cells [(.seq 1 (List.map cI a0.Costs)),(.seq 1 (List.map cI a0.Ounces)),(.seq 3 (List.map A3 a0.Figures)),(.seq 3 (List.map A3 a0.Persons)),(.mp (H.length + 2))]),(.cells (A3 x6))]) e s' H') () ho12 rfl rfl (fun _ _=>rfl) (fun _=>rfl) rfl (fun s7=>(bdc (F3 rfl) (bdc (F3 rfl) (bdc A9 (bdc (F3 rfl) (bdc G3 (bdc A9 (bdc A9 (bdc G3 (bdc A9 (bdc A9 bdn))))))))))) (fun q8 s7 ys7 hs7=>?_) ?_
    ·unfold A46 at hs7
     refine s0<|A1 (L8 rfl rfl) rfl<|es (ra11 rfl rfl rfl rfl rfl rfl rfl rfl rfl rfl rfl)<|C1<|wi hs7 rfl (fun hc9 hs7=>?_) fun hc9 hs7=>?_
     ·refine C9<|C1<|C6<|sg 5 rfl<|oB hs7 fun x10 hx10 hs7=>qm rfl<|A1 (L4 (f:=A3) rfl rfl hx10) rfl<|A1 (Q0 rfl rfl) rfl<|A1 D9 rfl<|qm rfl<|F8 (C4 (ds:=(A3 x10)) rfl rfl rfl rfl (C0 rfl) rfl) rfl<|es (ra12 rfl rfl rfl rfl rfl rfl rfl rfl rfl rfl rfl rfl)<|r0<|oB hs7 fun x11 hx11 hs7=>qm rfl<|A1 (V4 rfl rfl) rfl<|A1 (D6 rfl) rfl<|A1 (D5 (x:=(.mp (H.length + 2))) rfl rfl rfl) rfl<|qm rfl<|qm rfl<|A1 (I4 (cs:=C3 (dress_pair.mk s3.1 s7.1)) rfl rfl) rfl<|qm rfl<|A1 (C5 rfl rfl rfl) rfl<|A1 (C5 rfl rfl rfl) rfl<|W7 (rs:=[(.agg (B2 x11))]) rfl rfl (J8 rfl (J8 rfl (J8 rfl A00))) (A4 rfl (A4 (E4 rfl) (A4 (E4 rfl) B8))) ((N0 (U5 rfl) hx11).frz)<|F8 (A64 (av:=(fun x=>(.agg (C3 x)))) (gv:=(fun x=>(.agg (B2 x)))) (k:=(dress_pair.mk s3.1 s7.1)) (v:=x11) M3 rfl rfl rfl rfl rfl) rfl<|en (ra10 rfl rfl rfl rfl rfl rfl rfl rfl rfl rfl)<|r0<|A1 (G9 rfl rfl) rfl<|qm rfl<|en (ra10 rfl rfl rfl rfl rfl rfl rfl rfl rfl rfl) ?_
      cases hs7
      exact lnT () rfl (su10 rfl rfl rfl rfl rfl rfl rfl rfl rfl rfl)
     ·refine I5 ?_
      obtain rfl:=os hs7
      exact lx rfl px (su5 rfl rfl rfl rfl rfl)
    ·rintro e s' H' - ⟨rfl,rfl,rfl⟩
     refine r0<|A1 (G9 rfl rfl) rfl<|qm rfl<|en (ra5 rfl rfl rfl rfl rfl) ?_
     cases hs3
     exact lnT () rfl (su5 rfl rfl rfl rfl rfl)
   ·refine I5 ?_
    obtain rfl:=os hs3
    exact lx rfl px (su1 rfl)
  ·rintro e s' H' - ⟨rfl,rfl,rfl⟩
   refine s0<|qm rfl<|qm rfl<|qm rfl<|es (ra2 rfl rfl)<|D0<|InlQ.mk trivial ⟨_,_,_,[(.ptr (H.length + 3) 0),.i 0],_,(B3 rfl (B3 rfl B6)),(A8 rfl (A8 rfl B9)),(A3f (Y7 (A20 rfl)) (I0 rfl (I0 rfl Z4))),?_⟩
   refine qm rfl<|A1 (A6 rfl rfl) rfl<|A1 (A6 rfl rfl) rfl<|qm rfl<|qm rfl<|es (ra2 rfl rfl)<|C1<|s0<|qm rfl<|A1 (K3 (v:=(.b false)) rfl rfl rfl) rfl<|es (ra3 rfl rfl rfl)<|T2 rfl rfl<|C9<|sg 4 rfl<|oB h fun x14 hx14 h=>oB h fun x15 hx15 h=>qm rfl<|qm rfl<|C2 (rs:=[.i x14]) rfl rfl (A4 rfl B8) ((J6 (D2 rfl) hx14).frz)<|C2 (rs:=[(.agg (A2 x15.1)),.b x15.2]) rfl rfl (A4 rfl (A4 rfl B8)) (A9s (t:=a0) (ch:=o13) ⟨_,D2 rfl,W5 rfl⟩ (A2h hscv) hx15)<|qm rfl<|A1 (A6 rfl rfl) rfl<|A1 (A6 rfl rfl) rfl<|A1 D9 rfl<|F8 (C4 (ds:=(A2 x15.1)) rfl rfl rfl rfl (C0 rfl) rfl) rfl<|qm rfl<|es (ra2 rfl rfl)<|C1<|s0<|qm rfl<|A1 (A4m rfl) rfl<|es (ra2 rfl rfl)<|wi h rfl (fun hc16 h=>?_) fun hc16 h=>?_
   ·refine s0<|qm rfl<|qm rfl<|qm rfl<|es (ra3 rfl rfl rfl)<|D0 ?_
    obtain rfl:=os h
    exact retq trivial (B3 rfl (B3 rfl (B3 rfl B6))) (A8 rfl (A8 rfl (A8 rfl B9))) (A5 G3 (A5 A9 (A5 A9 B4)))
   ·refine C9<|s0<|A1 (D6 rfl) rfl<|A1 (D5 rfl rfl rfl) rfl<|A1 (D6 rfl) rfl<|A1 (D5 rfl rfl rfl) rfl<|qm rfl<|qm rfl<|qm rfl<|es (ra3 rfl rfl rfl)<|D0 ?_
    obtain rfl:=os h
    exact retq trivial (B3 rfl (B3 rfl (B3 rfl B6))) (A8 rfl (A8 rfl (A8 rfl B9))) (A5 G3 (A5 A9 (A5 A9 B4)))
def A17 (a0:DrRoom) (s3:(Int × (List (dress_pair × dress_change)))) (x6:DrLook) (s7:(Int × (List (dress_pair × dress_change)))):Option ((Int × (List (dress_pair × dress_change))) ⊕ (List (dress_pair × dress_change))) :=
 if (decide (s7.1 < (List.length a0.Persons:Int))) = true then
  (idx a0.Persons s7.1).bind fun x10 =>
  (N2 (dress_room.mk a0) x6 x10).bind fun x11 =>
  some (.inl ((w64 (s7.1 + 1)),(kset s7.2 (dress_pair.mk s3.1 s7.1) x11)))
 else
  some (.inr s7.2)
def O3 (a0:DrRoom) (s3:(Int × (List (dress_pair × dress_change)))):Option ((Int × (List (dress_pair × dress_change))) ⊕ (List (dress_pair × dress_change))) :=
 if (decide (s3.1 < (List.length a0.Figures:Int))) = true then
  (idx a0.Figures s3.1).bind fun x6 =>
  (loop (A17 a0 s3 x6) (0,s3.2)).bind fun (o12:(List (dress_pair × dress_change))) =>
  some (.inl ((w64 (s3.1 + 1)),o12))
 else
  some (.inr s3.2)
def A48 (a0:DrRoom) (a1:Int) (a2:Int) (o13:(List (dress_pair × dress_change))) (s20:(Int × (List Int))):Option ((Int × (List Int)) ⊕ (List Int)) :=
 if (decide (s20.1 < (List.length a0.Costs:Int))) = true then
  (B4w .i64 ((Option.getD (kget o13 (dress_pair.mk a1 a2)) (dress_change.mk 0 0 (Ar4.mk 0 0 0 0))).kinds_) s20.1).bind fun x23 =>
  if ((B2i x23 1) == 1) = true then
  (app 8 s20.2 [s20.1]).bind fun x25 =>
  some (.inl ((w64 (s20.1 + 1)),x25))
  else
  some (.inl ((w64 (s20.1 + 1)),s20.2))
 else
  some (.inr s20.2)
def A1f (a0:DrRoom) (a1:Int) (a2:Int):Option (Int × (List Int) × Int) :=
 (L2 a0).bind fun x1 =>
 if (x1.2.2 != 0) = true then
  some (0,([]:List Int),x1.2.2)
 else
  (loop (O3 a0) (0,([]:(List (dress_pair × dress_change))))).bind fun (o13:(List (dress_pair × dress_change))) =>
  (K1 0 (w64 ((List.length a0.Figures:Int) - 1)) [a1]).bind fun x14 =>
  (if x14 = true then
  some true
  else
  (K1 0 (w64 ((List.length a0.Persons:Int) - 1)) [a2]).bind fun x16 =>
  some x16).bind fun x17 =>
  if x17 = true then
  some (0,([]:List Int),4)
  else
  if (((Option.getD (kget o13 (dress_pair.mk a1 a2)) (dress_change.mk 0 0 (Ar4.mk 0 0 0 0))).cost_ == (dress_change.mk 0 0 (Ar4.mk 0 0 0 0)).cost_) && (((Option.getD (kget o13 (dress_pair.mk a1 a2)) (dress_change.mk 0 0 (Ar4.mk 0 0 0 0))).kinds_ == (dress_change.mk 0 0 (Ar4.mk 0 0 0 0)).kinds_) && (((Option.getD (kget o13 (dress_pair.mk a1 a2)) (dress_change.mk 0 0 (Ar4.mk 0 0 0 0))).hair_.x0 == (dress_change.mk 0 0 (Ar4.mk 0 0 0 0)).hair_.x0) && (((Option.getD (kget o13 (dress_pair.mk a1 a2)) (dress_change.mk 0 0 (Ar4.mk 0 0 0 0))).hair_.x1 == (dress_change.mk 0 0 (Ar4.mk 0 0 0 0)).hair_.x1) && (((Option.getD (kget o13 (dress_pair.mk a1 a2)) (dress_change.mk 0 0 (Ar4.mk 0 0 0 0))).hair_.x2 == (dress_change.mk 0 0 (Ar4.mk 0 0 0 0)).hair_.x2) && (((Option.getD (kget o13 (dress_pair.mk a1 a2)) (dress_change.mk 0 0 (Ar4.mk 0 0 0 0))).hair_.x3 == (dress_change.mk 0 0 (Ar4.mk 0 0 0 0)).hair_.x3) && true)))))) = true then
   some (0,([]:List Int),0)
  else
   (loop (A48 a0 a1 a2 o13) (0,([]:List Int))).bind fun (o26:(List Int)) =>
   some ((Option.getD (kget o13 (dress_pair.mk a1 a2)) (dress_change.mk 0 0 (Ar4.mk 0 0 0 0))).cost_,o26,0)
theorem A2e {c:Sc} {H:A0} {a0:DrRoom} {a1:Int} {a2:Int} {r:(Int × (List Int) × Int)} (h:A1f a0 a1 a2 = some r) :
  F2 tab c H (.fn (.func 18) [] []) [(.agg (A7 a0)),.i a1,.i a2] [.i r.1,(.fresh 1 (List.map cI r.2.1)),.i r.2.2]:= by
 unfold A1f at h
 refine cE rfl rfl<|sg 0 rfl<|A1 (H8 (cs:=A7 a0) rfl rfl rfl) rfl<|qm rfl<|A1 B1a rfl<|qm rfl<|es (ra4 rfl rfl rfl rfl)<|s0<|A1 (C5 rfl rfl rfl) rfl<|A0f (as2:=[(.agg (A7 a0))]) (H1:=(H++[(.cells (A7 a0)),(.arr 1 false (List.map cI ([]:List Int)))])) rfl rfl (A4 (E4 rfl) B8) rfl rfl rfl (A3g rfl)<|sg 2 rfl<|A1 (H8 (cs:=A7 a0) rfl rfl rfl) rfl<|qm rfl<|qm rfl<|es (ra1 rfl)<|C1<|s0<|oB h fun x1 hx1 h=>A1 (C5 rfl rfl rfl) rfl<|C2 (rs:=[.i x1.1,.i x1.2.1,.i x1.2.2]) rfl rfl (A4 (E4 rfl) B8) ((R2 hx1).frz)<|qm rfl<|A1 (A6 rfl rfl) rfl<|A1 (A6 rfl rfl) rfl<|A1 (A6 rfl rfl) rfl<|qm rfl<|qm rfl<|qm rfl<|es (ra2 rfl rfl)<|s0<|qm rfl<|A1 (R1 rfl rfl) rfl<|es (ra3 rfl rfl rfl)<|wi h rfl (fun hc2 h=>?_) fun hc2 h=>?_
 ·refine s0<|qm rfl<|qm rfl<|qm rfl<|es (ra2 rfl rfl)<|D0<|InlQ.mk trivial ⟨_,_,_,[(.lit (.pointer none)),.i x1.2.2],_,(B3 rfl (B3 rfl B6)),(A8 rfl (A8 rfl B9)),(A5p (A5 A9 (A5 A9 B4)) (I0 rfl (I0 rfl Z4)) (T6 _ _ _)),?_⟩
  refine qm rfl<|A1 (A6 rfl rfl) rfl<|A1 (A6 rfl rfl) rfl<|qm rfl<|qm rfl<|es (ra6 rfl rfl rfl rfl rfl rfl)<|C1<|C6<|s0<|qm rfl<|A1 (R1 rfl rfl) rfl<|qm rfl<|es (ra7 rfl rfl rfl rfl rfl rfl rfl)<|N5 rfl hc2<|sg 2 rfl<|qm rfl<|qm rfl<|A1 B1a rfl<|qm rfl<|es (ra3 rfl rfl rfl)<|D0 ?_
  obtain rfl:=os h
  exact retq trivial (B3 rfl (B3 rfl (B3 rfl B6))) (A8 rfl (A8 (A50 rfl (List.length_map _)) (A8 rfl B9))) (A5 A9 (A5 A2l (A5 A9 B4)))
 ·refine C9<|sg 3 rfl<|A1 (C5 rfl rfl rfl) rfl<|A1 A66 rfl<|A1 (I4 (cs:=[(.seq 1 (List.map cI a0.Costs)),(.seq 1 (List.map cI a0.Ounces)),(.seq 3 (List.map A3 a0.Figures)),(.seq 3 (List.map A3 a0.Persons)),(.mp (H.length + 3))]) rfl rfl) rfl<|A1 (H8 (cs:=[(.seq 1 (List.map cI a0.Costs)),(.seq 1 (List.map cI a0.Ounces)),(.seq 3 (List.map A3 a0.Figures)),(.seq 3 (List.map A3 a0.Persons)),(.mp (H.length + 3))]) rfl rfl rfl) rfl<|qm rfl<|es (ra2 rfl rfl)<|C1<|s0<|A1 (D6 rfl) rfl<|A1 (D5 rfl rfl rfl) rfl<|A1 (E6 (f:=A3) rfl) rfl<|qm rfl<|es (ra5 rfl rfl rfl rfl rfl)<|C6<|oB h fun o13 ho13 h=>wl (fun s3=>[(1,(.ptr (H.length + 2) 0)),(7,(.ptr (H.length + 4) 0)),(26,(.seq 3 (List.map A3 a0.Figures))),(27,(.i (List.length a0.Figures:Int))),(28,.i s3.1)]) (fun (q4:Unit) s3=>[(.cells (A7 a0)),(.arr 1 false (List.map cI ([]:List Int))),(.cells (A7 a0)),(.map (List.map (kE (fun x=>(.agg (C3 x))) (fun x=>(.agg (B2 x)))) s3.2)),(.cells [(.seq 1 (List.map cI a0.Costs)),(.seq 1 (List.map cI a0.Ounces)),(.seq 3 (List.map A3 a0.Figures)),(.seq 3 (List.map A3 a0.Persons)),(.mp (H.length + 3))])]) 5 (fun r e s' H'=>PX 0 [(7,(.ptr (H.length + 4) 0))] (H++[(.cells (A7 a0)),(.arr 1 false (List.map cI ([]:List Int))),(.cells (A7 a0)),(.map (List.map (kE (fun x=>(.agg (C3 x))) (fun x=>(.agg (B2 x)))) r)),(.cells [(.seq 1 (List.map cI a0.Costs)),(.seq 1 (List.map cI a0.Ounces)),(.seq 3 (List.map A3 a0.Figures)),(.seq 3 (List.map A3 a0.Persons)),(.mp (H.length + 3))])]) e s' H') () ho13 rfl rfl (fun _ _=>rfl) (fun _=>rfl) rfl (fun s3=>(bdc (F3 rfl) (bdc (F3 rfl) (bdc G3 (bdc A9 (bdc A9 bdn)))))) (fun q4 s3 ys3 hs3=>?_) ?_
  ·unfold O3 at hs3
   refine s0<|A1 (L8 rfl rfl) rfl<|es (ra6 rfl rfl rfl rfl rfl rfl)<|C1<|wi hs3 rfl (fun hc5 hs3=>?_) fun hc5 hs3=>?_
   ·refine C9<|C1<|C6<|sg 5 rfl<|oB hs3 fun x6 hx6 hs3=>qm rfl<|A1 (L4 (f:=A3) rfl rfl hx6) rfl<|A1 (Q0 rfl rfl) rfl<|A1 D9 rfl<|qm rfl<|F8 (C4 (ds:=(A3 x6)) rfl rfl rfl rfl (C0 rfl) rfl) rfl<|es (ra7 rfl rfl rfl rfl rfl rfl rfl)<|s0<|A1 (D6 rfl) rfl<|A1 (D5 rfl rfl rfl) rfl<|A1 (E6 (f:=A3) rfl) rfl<|qm rfl<|es (ra10 rfl rfl rfl rfl rfl rfl rfl rfl rfl rfl)<|C6<|oB hs3 fun o12 ho12 hs3=>wl (fun s7=>[(1,(.ptr (H.length + 2) 0)),(7,(.ptr (H.length + 4) 0)),(8,.i s3.1),(9,(.ptr (H.length + 5) 0)),(26,(.seq 3 (List.map A3 a0.Figures))),(27,(.i (List.length a0.Figures:Int))),(28,.i s3.1),(34,(.seq 3 (List.map A3 a0.Persons))),(35,(.i (List.length a0.Persons:Int))),(36,.i s7.1)]) (fun (q8:Unit) s7=>[(.cells (A7 a0)),(.arr 1 false (List.map cI ([]:List Int))),(.cells (A7 a0)),(.map (List.map (kE (fun x=>(.agg (C3 x))) (fun x=>(.agg (B2 x)))) s7.2)),(.cells [(.seq 1 (List.map cI a0.Costs)),(.seq 1 (List.map cI a0.Ounces)),(.seq 3 (List.map A3 a0.Figures)),(.seq 3 (List.map A3 a0.Persons)),(.mp (H.length + 3))]),(.cells (A3 x6))]) 6 (fun r e s' H'=>PX 2 [(1,(.ptr (H.length + 2) 0)),(7,(.ptr (H.length + 4) 0)),(26,(.seq 3 (List.map A3 a0.Figures))),(27,(.i (List.length a0.Figures:Int))),(28,.i s3.1)] (H++[(.cells (A7 a0)),(.arr 1 false (List.map cI ([]:List Int))),(.cells (A7 a0)),(.map (List.map (kE (fun x=>(.agg (C3 x))) (fun x=>(.agg (B2 x)))) r)),(.cells [(.seq 1 (List.map cI a0.Costs)),(.seq 1 (List.map cI a0.Ounces)),(.seq 3 (List.map A3 a0.Figures)),(.seq 3 (List.map A3 a0.Persons)),(.mp (H.length + 3))]),(.cells (A3 x6))]) e s' H') () ho12 rfl rfl (fun _ _=>rfl) (fun _=>rfl) rfl (fun s7=>(bdc (F3 rfl) (bdc (F3 rfl) (bdc A9 (bdc (F3 rfl) (bdc G3 (bdc A9 (bdc A9 (bdc G3 (bdc A9 (bdc A9 bdn))))))))))) (fun q8 s7 ys7 hs7=>?_) ?_
    ·unfold A17 at hs7
     refine s0<|A1 (L8 rfl rfl) rfl<|es (ra11 rfl rfl rfl rfl rfl rfl rfl rfl rfl rfl rfl)<|C1<|wi hs7 rfl (fun hc9 hs7=>?_) fun hc9 hs7=>?_
     ·refine C9<|C1<|C6<|sg 6 rfl<|oB hs7 fun x10 hx10 hs7=>qm rfl<|A1 (L4 (f:=A3) rfl rfl hx10) rfl<|A1 (Q0 rfl rfl) rfl<|A1 D9 rfl<|qm rfl<|F8 (C4 (ds:=(A3 x10)) rfl rfl rfl rfl (C0 rfl) rfl) rfl<|es (ra12 rfl rfl rfl rfl rfl rfl rfl rfl rfl rfl rfl rfl)<|r0<|oB hs7 fun x11 hx11 hs7=>qm rfl<|A1 (V4 rfl rfl) rfl<|A1 (D6 rfl) rfl<|A1 (D5 (x:=(.mp (H.length + 3))) rfl rfl rfl) rfl<|qm rfl<|qm rfl<|A1 (I4 (cs:=C3 (dress_pair.mk s3.1 s7.1)) rfl rfl) rfl<|qm rfl<|A1 (C5 rfl rfl rfl) rfl<|A1 (C5 rfl rfl rfl) rfl<|W7 (rs:=[(.agg (B2 x11))]) rfl rfl (J8 rfl (J8 rfl (J8 rfl A00))) (A4 rfl (A4 (E4 rfl) (A4 (E4 rfl) B8))) ((N0 (U5 rfl) hx11).frz)<|F8 (A64 (av:=(fun x=>(.agg (C3 x)))) (gv:=(fun x=>(.agg (B2 x)))) (k:=(dress_pair.mk s3.1 s7.1)) (v:=x11) M3 rfl rfl rfl rfl rfl) rfl<|en (ra10 rfl rfl rfl rfl rfl rfl rfl rfl rfl rfl)<|r0<|A1 (G9 rfl rfl) rfl<|qm rfl<|en (ra10 rfl rfl rfl rfl rfl rfl rfl rfl rfl rfl) ?_
      cases hs7
      exact lnT () rfl (su10 rfl rfl rfl rfl rfl rfl rfl rfl rfl rfl)
     ·refine I5 ?_
      obtain rfl:=os hs7
      exact lx rfl px (su5 rfl rfl rfl rfl rfl)
    ·rintro e s' H' - ⟨rfl,rfl,rfl⟩
     refine r0<|A1 (G9 rfl rfl) rfl<|qm rfl<|en (ra5 rfl rfl rfl rfl rfl) ?_
     cases hs3
     exact lnT () rfl (su5 rfl rfl rfl rfl rfl)
   ·refine I5 ?_
    obtain rfl:=os hs3
    exact lx rfl px (su1 rfl)
  ·rintro e s' H' - ⟨rfl,rfl,rfl⟩
   refine s0<|qm rfl<|qm rfl<|qm rfl<|es (ra2 rfl rfl)<|D0<|InlQ.mk trivial ⟨_,_,_,[(.ptr (H.length + 4) 0),.i 0],_,(B3 rfl (B3 rfl B6)),(A8 rfl (A8 rfl B9)),(A3f (Y7 (A20 rfl)) (I0 rfl (I0 rfl Z4))),?_⟩
   refine qm rfl<|A1 (A6 rfl rfl) rfl<|A1 (A6 rfl rfl) rfl<|qm rfl<|qm rfl<|es (ra6 rfl rfl rfl rfl rfl rfl)<|C1<|C6<|s0<|qm rfl<|A1 (K3 (v:=(.b false)) rfl rfl rfl) rfl<|qm rfl<|es (ra7 rfl rfl rfl rfl rfl rfl rfl)<|T2 rfl rfl<|s0<|oB h fun x14 hx14 h=>oB h fun x17 hx17 h=>A1 (D6 rfl) rfl<|A1 (D5 rfl rfl rfl) rfl<|A1 (E6 (f:=A3) rfl) rfl<|A1 (A1w rfl rfl) rfl<|qm rfl<|A1 (I2 (rows:=List.map cI [a1]) rfl rfl (E0 (fun _=>rfl) _)) rfl<|C2 (rs:=[.b x14]) rfl rfl (A4 rfl (A4 rfl (A4 rfl B8))) ((J0 hx14).frz)<|qm rfl<|gp 8 37 (.b x17) 29 rfl rfl (fun hg15=>?_) (fun hg15=>?_) ?_
   ·obtain rfl:=os (bt hx17 hg15)
    exact nF rfl hg15 rfl<|nF rfl hg15 rfl<|nF rfl hg15 rfl<|nF rfl hg15 rfl<|nF rfl hg15 rfl<|nF rfl hg15 rfl<|S8 (K8 rfl (by rw [hg15]; rfl)) rfl<|A1 (D8 rfl hg15 rfl) rfl<|ge 8 rfl rfl rfl
   ·refine oB (bf hx17 hg15) fun x16 hx16 hx17=>?_
    obtain rfl:=os hx17
    exact gF rfl hg15<|A1 (D6 rfl) rfl<|gF rfl hg15<|A1 (D5 rfl rfl rfl) rfl<|gF rfl hg15<|A1 (E6 (f:=A3) rfl) rfl<|gF rfl hg15<|A1 (A1w rfl rfl) rfl<|gF rfl hg15<|qm rfl<|gF rfl hg15<|A1 (I2 (rows:=List.map cI [a2]) rfl rfl (E0 (fun _=>rfl) _)) rfl<|gF rfl hg15<|C2 (rs:=[.b x16]) rfl rfl (A4 rfl (A4 rfl (A4 rfl B8))) ((J0 hx16).frz)<|A1 (D7 rfl hg15 rfl) rfl<|ge 8 rfl rfl rfl
   refine qm rfl<|es (ra6 rfl rfl rfl rfl rfl rfl)<|wi h rfl (fun hc18 h=>?_) fun hc18 h=>?_
   ·refine sg 5 rfl<|qm rfl<|A1 B1a rfl<|qm rfl<|es (ra3 rfl rfl rfl)<|D0 ?_
    obtain rfl:=os h
    exact retq trivial (B3 rfl (B3 rfl (B3 rfl B6))) (A8 rfl (A8 (A50 rfl (List.length_map _)) (A8 rfl B9))) (A5 A9 (A5 A2l (A5 A9 B4)))
   ·refine C9<|sg 5 rfl<|qm rfl<|A1 (V4 rfl rfl) rfl<|A1 (D6 rfl) rfl<|A1 (D5 (x:=(.mp (H.length + 3))) rfl rfl rfl) rfl<|qm rfl<|qm rfl<|A1 (I4 (cs:=C3 (dress_pair.mk a1 a2)) rfl rfl) rfl<|A1 (C2s (av:=(fun x=>(.agg (C3 x)))) (gv:=(fun x=>(.agg (B2 x)))) (k:=(dress_pair.mk a1 a2)) (z:=(dress_change.mk 0 0 (Ar4.mk 0 0 0 0))) M3 rfl (W5 rfl) rfl rfl) rfl<|A1 D9 rfl<|F8 (C4 (ds:=(B2 (Option.getD (kget o13 (dress_pair.mk a1 a2)) (dress_change.mk 0 0 (Ar4.mk 0 0 0 0))))) rfl rfl rfl rfl (C0 rfl) rfl) rfl<|es (ra3 rfl rfl rfl)<|C1<|s0<|A1 (C5 rfl rfl rfl) rfl<|A1 (I4 (cs:=B2 (dress_change.mk 0 0 (Ar4.mk 0 0 0 0))) rfl rfl) rfl<|A1 (B8c (a:=B2 (Option.getD (kget o13 (dress_pair.mk a1 a2)) (dress_change.mk 0 0 (Ar4.mk 0 0 0 0)))) (b:=B2 (dress_change.mk 0 0 (Ar4.mk 0 0 0 0))) rfl rfl rfl rfl (S0 (S0 (S0 (S0 (S0 (S0 B4g))))))) rfl<|es (ra4 rfl rfl rfl rfl)<|wi h rfl (fun hc19 h=>?_) fun hc19 h=>?_
    ·refine sg 6 rfl<|qm rfl<|A1 B1a rfl<|qm rfl<|es (ra3 rfl rfl rfl)<|D0 ?_
     obtain rfl:=os h
     exact retq trivial (B3 rfl (B3 rfl (B3 rfl B6))) (A8 rfl (A8 (A50 rfl (List.length_map _)) (A8 rfl B9))) (A5 A9 (A5 A2l (A5 A9 B4)))
    ·refine C9<|C1<|s0<|A1 (D6 rfl) rfl<|A1 (D5 rfl rfl rfl) rfl<|A1 (E6 (f:=cI) rfl) rfl<|qm rfl<|es (ra4 rfl rfl rfl rfl)<|C6<|oB h fun o26 ho26 h=>wl (fun s20=>[(7,(.asl (H.length + 1) (List.length s20.2))),(10,(.ptr (H.length + 5) 0)),(51,(.i (List.length a0.Costs:Int))),(52,.i s20.1)]) (fun (q21:Unit) s20=>[(.cells (A7 a0)),(.arr 1 false (List.map cI s20.2)),(.cells (A7 a0)),(.map (List.map (kE (fun x=>(.agg (C3 x))) (fun x=>(.agg (B2 x)))) o13)),(.cells [(.seq 1 (List.map cI a0.Costs)),(.seq 1 (List.map cI a0.Ounces)),(.seq 3 (List.map A3 a0.Figures)),(.seq 3 (List.map A3 a0.Persons)),(.mp (H.length + 3))]),(.cells (B2 (Option.getD (kget o13 (dress_pair.mk a1 a2)) (dress_change.mk 0 0 (Ar4.mk 0 0 0 0)))))]) 6 (fun r e s' H'=>PX 1 [(7,(.asl (H.length + 1) (List.length r))),(10,(.ptr (H.length + 5) 0))] (H++[(.cells (A7 a0)),(.arr 1 false (List.map cI r)),(.cells (A7 a0)),(.map (List.map (kE (fun x=>(.agg (C3 x))) (fun x=>(.agg (B2 x)))) o13)),(.cells [(.seq 1 (List.map cI a0.Costs)),(.seq 1 (List.map cI a0.Ounces)),(.seq 3 (List.map A3 a0.Figures)),(.seq 3 (List.map A3 a0.Persons)),(.mp (H.length + 3))]),(.cells (B2 (Option.getD (kget o13 (dress_pair.mk a1 a2)) (dress_change.mk 0 0 (Ar4.mk 0 0 0 0)))))]) e s' H') () ho26 rfl rfl (fun _ _=>rfl) (fun _=>rfl) rfl (fun s20=>(bdc (A7w rfl) (bdc (F3 rfl) (bdc A9 (bdc A9 bdn))))) (fun q21 s20 ys20 hs20=>?_) ?_
     ·unfold A48 at hs20
      refine s0<|A1 (L8 rfl rfl) rfl<|es (ra5 rfl rfl rfl rfl rfl)<|C1<|wi hs20 rfl (fun hc22 hs20=>?_) fun hc22 hs20=>?_
      ·refine C9<|C1<|C6<|s0<|qm rfl<|qm rfl<|es (ra5 rfl rfl rfl rfl rfl)<|s0<|oB hs20 fun x23 hx23 hs20=>A1 (D6 rfl) rfl<|A1 (D5 rfl rfl rfl) rfl<|qm rfl<|A1 (B1b rfl rfl hx23) rfl<|A1 (K3 (v:=(.i (B2i x23 1))) rfl rfl rfl) rfl<|A1 (J3 rfl rfl) rfl<|es (ra6 rfl rfl rfl rfl rfl rfl)<|wi hs20 rfl (fun hc24 hs20=>?_) fun hc24 hs20=>?_
       ·refine r0<|oB hs20 fun x25 hx25 hs20=>qm rfl<|qm rfl<|A1 (I2 (rows:=List.map cI [s20.1]) rfl rfl (E0 (fun _=>rfl) _)) rfl<|R8 (B06 (f:=cI) rfl rfl rfl rfl A4i (fun _=>rfl) hx25) rfl<|qm rfl<|en (ra4 rfl rfl rfl rfl)<|r0<|A1 (G9 rfl rfl) rfl<|qm rfl<|en (ra4 rfl rfl rfl rfl) ?_
        cases hs20
        exact lnT () rfl (su4 rfl rfl rfl rfl)
       ·refine C9<|r0<|A1 (G9 rfl rfl) rfl<|qm rfl<|en (ra4 rfl rfl rfl rfl) ?_
        cases hs20
        exact lnT () rfl (su4 rfl rfl rfl rfl)
      ·refine I5 ?_
       obtain rfl:=os hs20
       exact lx rfl px (su2 rfl rfl)
     ·rintro e s' H' - ⟨rfl,rfl,rfl⟩
      refine s0<|A1 (D6 rfl) rfl<|A1 (D5 rfl rfl rfl) rfl<|qm rfl<|qm rfl<|qm rfl<|qm rfl<|es (ra3 rfl rfl rfl)<|D0 ?_
      obtain rfl:=os h
      exact retq trivial (B3 rfl (B3 rfl (B3 rfl B6))) (A8 rfl (A8 (A50 rfl (List.length_map _)) (A8 rfl B9))) (A5 A9 (A5 A2l (A5 A9 B4)))
def T7 (a0:Int):Option Bool :=
 some (a0 != a0)
theorem V5 {c:Sc} {H:A0} {a0:Int} {r:Bool} (h:T7 a0 = some r) :
  F2 tab c H (.fn (.func 116) [] []) [.i a0] [.b r]:= by
 unfold T7 at h
 refine cE rfl rfl<|s0<|qm rfl<|es (ra1 rfl)<|s0<|qm rfl<|qm rfl<|A1 (R1 rfl rfl) rfl<|qm rfl<|es (ra1 rfl)<|D0 ?_
 obtain rfl:=os h
 exact retq trivial (B3 rfl B6) (A8 rfl B9) (A5 A9 B4)
def A0x (a0:Int) (a1:Int):Option Int :=
 (T7 a0).bind fun x1 =>
 (T7 a1).bind fun x2 =>
 if x1 = true then
  if x2 = true then
  some 0
  else
  some (-1)
 else
  if x2 = true then
  some 1
  else
  if (decide (a0 < a1)) = true then
   some (-1)
  else
   if (decide (a0 > a1)) = true then
   some 1
   else
   some 0
theorem A5v {c:Sc} {H:A0} {a0:Int} {a1:Int} {r:Int} (h:A0x a0 a1 = some r) :
  F2 tab c H (.fn (.func 98) [] []) [.i a0,.i a1] [.i r]:= by
 unfold A0x at h
 refine cE rfl rfl<|s0<|qm rfl<|es (ra2 rfl rfl)<|s0<|oB h fun x1 hx1 h=>qm rfl<|C2 (rs:=[.b x1]) rfl rfl (A4 rfl B8) ((V5 hx1).frz)<|qm rfl<|es (ra3 rfl rfl rfl)<|s0<|oB h fun x2 hx2 h=>qm rfl<|C2 (rs:=[.b x2]) rfl rfl (A4 rfl B8) ((V5 hx2).frz)<|qm rfl<|es (ra4 rfl rfl rfl rfl)<|C1<|s0<|qm rfl<|es (ra4 rfl rfl rfl rfl)<|wi h rfl (fun hc3 h=>?_) fun hc3 h=>?_
 ·refine C1<|s0<|qm rfl<|es (ra1 rfl)<|wi h rfl (fun hc4 h=>?_) fun hc4 h=>?_
  ·refine s0<|qm rfl<|es (ra1 rfl)<|D0 ?_
   obtain rfl:=os h
   exact retq trivial (B3 rfl B6) (A8 rfl B9) (A5 A9 B4)
  ·refine C9<|s0<|qm rfl<|es (ra1 rfl)<|D0 ?_
   obtain rfl:=os h
   exact retq trivial (B3 rfl B6) (A8 rfl B9) (A5 A9 B4)
 ·refine C9<|C1<|s0<|qm rfl<|es (ra3 rfl rfl rfl)<|wi h rfl (fun hc5 h=>?_) fun hc5 h=>?_
  ·refine s0<|qm rfl<|es (ra1 rfl)<|D0 ?_
   obtain rfl:=os h
   exact retq trivial (B3 rfl B6) (A8 rfl B9) (A5 A9 B4)
  ·refine C9<|C1<|s0<|qm rfl<|qm rfl<|A1 (L8 rfl rfl) rfl<|es (ra3 rfl rfl rfl)<|wi h rfl (fun hc6 h=>?_) fun hc6 h=>?_
   ·refine s0<|qm rfl<|es (ra1 rfl)<|D0 ?_
    obtain rfl:=os h
    exact retq trivial (B3 rfl B6) (A8 rfl B9) (A5 A9 B4)
   ·refine C9<|C1<|s0<|qm rfl<|qm rfl<|A1 (A8t rfl rfl) rfl<|es (ra1 rfl)<|wi h rfl (fun hc7 h=>?_) fun hc7 h=>?_
    ·refine s0<|qm rfl<|es (ra1 rfl)<|D0 ?_
     obtain rfl:=os h
     exact retq trivial (B3 rfl B6) (A8 rfl B9) (A5 A9 B4)
    ·refine C9<|s0<|qm rfl<|es (ra1 rfl)<|D0 ?_
     obtain rfl:=os h
     exact retq trivial (B3 rfl B6) (A8 rfl B9) (A5 A9 B4)
def V9 (a0:(List Int)) (a1:(List Int)) (s1:Int):Option (Int ⊕ (Int ⊕ Unit)) :=
 if (decide (s1 < (List.length a0:Int))) = true then
  (idx a0 s1).bind fun x4 =>
  if (decide (s1 ≥ (List.length a1:Int))) = true then
  some (.inr (.inl 1))
  else
  (idx a1 s1).bind fun x6 =>
  (A0x x4 x6).bind fun x7 =>
  if (x7 != 0) = true then
   some (.inr (.inl x7))
  else
   some (.inl (w64 (s1 + 1)))
 else
  some (.inr (.inr ()))
def T0 (a0:(List Int)) (a1:(List Int)):Option Int :=
 (loop (V9 a0 a1) 0).bind fun (o9:(Int ⊕ Unit)) =>
 match o9 with
 | (.inl vo9_0) =>
  some vo9_0
 | (.inr vo9_1) =>
  if (decide ((List.length a0:Int) < (List.length a1:Int))) = true then
  some (-1)
  else
  some 0
theorem A1v {c:Sc} {H:A0} {a0:(List Int)} {a1:(List Int)} {r:Int} (h:T0 a0 a1 = some r) :
  F2 tab c H (.fn (.func 69) [] []) [(.seq 1 (List.map cI a0)),(.seq 1 (List.map cI a1))] [.i r]:= by
 unfold T0 at h
 refine cE rfl rfl<|s0<|qm rfl<|es (ra2 rfl rfl)<|C1<|s0<|qm rfl<|A1 (E6 (f:=cI) rfl) rfl<|qm rfl<|es (ra5 rfl rfl rfl rfl rfl)<|C6<|oB h fun o9 ho9 h=>wl (fun s1=>[(0,(.seq 1 (List.map cI a0))),(1,(.seq 1 (List.map cI a1))),(9,(.seq 1 (List.map cI a0))),(10,(.i (List.length a0:Int))),(11,.i s1)]) (fun (q2:Unit) s1=>[]) 0 (fun r e s' H'=>(match r with | (.inl v)=>e = .ret∧RetQ H [.tmp 4] [.i v] e s' H' | (.inr v)=>PX 0 [(0,(.seq 1 (List.map cI a0))),(1,(.seq 1 (List.map cI a1)))] (H++[]) e s' H':Prop)) () ho9 rfl rfl (fun _ _=>rfl) (fun _=>rfl) rfl (fun s1=>(bdc G3 (bdc G3 (bdc G3 (bdc A9 (bdc A9 bdn)))))) (fun q2 s1 ys1 hs1=>?_) ?_
 ·unfold V9 at hs1
  refine s0<|A1 (L8 rfl rfl) rfl<|es (ra6 rfl rfl rfl rfl rfl rfl)<|C1<|wi hs1 rfl (fun hc3 hs1=>?_) fun hc3 hs1=>?_
  ·refine C9<|C1<|C6<|s0<|oB hs1 fun x4 hx4 hs1=>qm rfl<|A1 (L4 (f:=cI) rfl rfl hx4) rfl<|A1 (S6 rfl rfl) rfl<|qm rfl<|qm rfl<|es (ra7 rfl rfl rfl rfl rfl rfl rfl)<|C1<|s0<|qm rfl<|qm rfl<|A1 (E6 (f:=cI) rfl) rfl<|A1 (A6d rfl rfl) rfl<|es (ra8 rfl rfl rfl rfl rfl rfl rfl rfl)<|wi hs1 rfl (fun hc5 hs1=>?_) fun hc5 hs1=>?_
   ·refine s0<|qm rfl<|es (ra1 rfl)<|D0 ?_
    obtain rfl:=os hs1
    exact lx rfl (And.intro rfl (retq trivial (B3 rfl B6) (A8 rfl B9) (A5 A9 B4))) (Sub.refl _)
   ·refine C9<|s0<|oB hs1 fun x6 hx6 hs1=>qm rfl<|qm rfl<|A1 (L4 (f:=cI) rfl rfl hx6) rfl<|A1 (S6 rfl rfl) rfl<|qm rfl<|es (ra7 rfl rfl rfl rfl rfl rfl rfl)<|s0<|oB hs1 fun x7 hx7 hs1=>qm rfl<|qm rfl<|C2 (rs:=[.i x7]) rfl rfl (A4 rfl (A4 rfl B8)) ((A5v hx7).frz)<|qm rfl<|es (ra6 rfl rfl rfl rfl rfl rfl)<|s0<|qm rfl<|A1 (R1 rfl rfl) rfl<|es (ra7 rfl rfl rfl rfl rfl rfl rfl)<|wi hs1 rfl (fun hc8 hs1=>?_) fun hc8 hs1=>?_
    ·refine s0<|qm rfl<|qm rfl<|es (ra1 rfl)<|D0 ?_
     obtain rfl:=os hs1
     exact lx rfl (And.intro rfl (retq trivial (B3 rfl B6) (A8 rfl B9) (A5 A9 B4))) (Sub.refl _)
    ·refine C9<|r0<|A1 (G9 rfl rfl) rfl<|qm rfl<|en (ra5 rfl rfl rfl rfl rfl) ?_
     cases hs1
     exact lnT () rfl (su5 rfl rfl rfl rfl rfl)
  ·refine I5 ?_
   obtain rfl:=os hs1
   exact lx rfl px (su2 rfl rfl)
 ·rcases o9 with vo9_0 | vo9_1
  ·rintro e s' H' - ⟨rfl,hret⟩
   cases h
   exact hret
  ·rintro e s' H' - ⟨rfl,rfl,rfl⟩
   refine C1<|s0<|qm rfl<|A1 (E6 (f:=cI) rfl) rfl<|qm rfl<|A1 (E6 (f:=cI) rfl) rfl<|A1 (L8 rfl rfl) rfl<|es (ra1 rfl)<|wi h rfl (fun hc10 h=>?_) fun hc10 h=>?_
   ·refine s0<|qm rfl<|es (ra1 rfl)<|D0 ?_
    obtain rfl:=os h
    exact retq trivial (B3 rfl B6) (A8 rfl B9) (A5 A9 B4)
   ·refine C9<|s0<|qm rfl<|es (ra1 rfl)<|D0 ?_
    obtain rfl:=os h
    exact retq trivial (B3 rfl B6) (A8 rfl B9) (A5 A9 B4)
def A6h (a0:DrRoom) (s3:(Int × (List (dress_pair × dress_change)))) (x6:DrLook) (s7:(Int × (List (dress_pair × dress_change)))):Option ((Int × (List (dress_pair × dress_change))) ⊕ (List (dress_pair × dress_change))) :=
 if (decide (s7.1 < (List.length a0.Persons:Int))) = true then
  (idx a0.Persons s7.1).bind fun x10 =>
  (N2 (dress_room.mk a0) x6 x10).bind fun x11 =>
  some (.inl ((w64 (s7.1 + 1)),(kset s7.2 (dress_pair.mk s3.1 s7.1) x11)))
 else
  some (.inr s7.2)
def A6i (a0:DrRoom) (s3:(Int × (List (dress_pair × dress_change)))):Option ((Int × (List (dress_pair × dress_change))) ⊕ (List (dress_pair × dress_change))) :=
 if (decide (s3.1 < (List.length a0.Figures:Int))) = true then
  (idx a0.Figures s3.1).bind fun x6 =>
  (loop (A6h a0 s3 x6) (0,s3.2)).bind fun (o12:(List (dress_pair × dress_change))) =>
  some (.inl ((w64 (s3.1 + 1)),o12))
 else
  some (.inr s3.2)
def A6j (a0:DrRoom) (s15:((List Int) × Bool × Int)) (s18:(Int × (List Int))):Option ((Int × (List Int)) ⊕ (List Int)) :=
 if (decide (s18.1 < (List.length a0.Persons:Int))) = true then
  (B4w .i64 s15.2.2 s18.1).bind fun x21 =>
  if ((B2i x21 1) == 1) = true then
  (app 8 s18.2 [s18.1]).bind fun x23 =>
  some (.inl ((w64 (s18.1 + 1)),x23))
  else
  some (.inl ((w64 (s18.1 + 1)),s18.2))
 else
  some (.inr s18.2)
def A6k (a0:DrRoom) (o13:(List (dress_pair × dress_change))) (x14:Int) (s15:((List Int) × Bool × Int)):Option (((List Int) × Bool × Int) ⊕ (List Int)) :=
 if (decide (s15.2.2 < x14)) = true then
  (loop (A6j a0 s15) (0,([]:List Int))).bind fun (o24:(List Int)) =>
  (if s15.2.1 = true then
  (if (decide ((List.length o24:Int) > (List.length s15.1:Int))) = true then
   some true
  else
   (if ((List.length o24:Int) == (List.length s15.1:Int)) = true then
   (T0 o24 s15.1).bind fun x28 =>
   some (decide (x28 > 0))
   else
   some false).bind fun x29 =>
   some x29).bind fun x30 =>
  some x30
  else
  some false).bind fun x31 =>
  if x31 = true then
  some (.inl (s15.1,s15.2.1,(w64 (s15.2.2 + 1))))
  else
  (J1 (dress_room.mk a0)).bind fun x33 =>
  (T4 a0 o13 (A9q x33 s15.2.2)).bind fun x34 =>
  if (decide ((List.length x34:Int) > 0)) = true then
   some (.inl (o24,true,(w64 (s15.2.2 + 1))))
  else
   some (.inl (s15.1,s15.2.1,(w64 (s15.2.2 + 1))))
 else
  some (.inr s15.1)
def A4t (a0:DrRoom):Option ((List Int) × Int) :=
 (L2 a0).bind fun x1 =>
 if (x1.2.2 != 0) = true then
  some (([]:List Int),x1.2.2)
 else
  (loop (A6i a0) (0,([]:(List (dress_pair × dress_change))))).bind fun (o13:(List (dress_pair × dress_change))) =>
  (B8r .i64 1 (List.length a0.Persons:Int)).bind fun x14 =>
  (loop (A6k a0 o13 x14) (([]:List Int),false,0)).bind fun (o36:(List Int)) =>
  some (o36,0)
theorem A68 {c:Sc} {H:A0} (hscv:O5 c H = true) {a0:DrRoom} {r:((List Int) × Int)} (h:A4t a0 = some r) :
  F2 tab c H (.fn (.func 32) [] []) [(.agg (A7 a0))] [(.seq 1 (List.map cI r.1)),.i r.2]:= by
 unfold A4t at h
 refine cE rfl rfl<|sg 0 rfl<|A1 (H8 (cs:=A7 a0) rfl rfl rfl) rfl<|qm rfl<|qm rfl<|es (ra2 rfl rfl)<|s0<|A1 (C5 rfl rfl rfl) rfl<|A0f (as2:=[(.agg (A7 a0))]) (H1:=(H++[(.cells (A7 a0))])) rfl rfl (A4 (E4 rfl) B8) rfl rfl rfl (A3g rfl)<|sg 1 rfl<|A1 (H8 (cs:=A7 a0) rfl rfl rfl) rfl<|qm rfl<|qm rfl<|es (ra1 rfl)<|C1<|s0<|oB h fun x1 hx1 h=>A1 (C5 rfl rfl rfl) rfl<|C2 (rs:=[.i x1.1,.i x1.2.1,.i x1.2.2]) rfl rfl (A4 (E4 rfl) B8) ((R2 hx1).frz)<|qm rfl<|A1 (A6 rfl rfl) rfl<|A1 (A6 rfl rfl) rfl<|A1 (A6 rfl rfl) rfl<|qm rfl<|qm rfl<|qm rfl<|es (ra2 rfl rfl)<|s0<|qm rfl<|A1 (R1 rfl rfl) rfl<|es (ra3 rfl rfl rfl)<|wi h rfl (fun hc2 h=>?_) fun hc2 h=>?_
 ·refine s0<|qm rfl<|qm rfl<|qm rfl<|es (ra2 rfl rfl)<|D0<|InlQ.mk trivial ⟨_,_,_,[(.lit (.pointer none)),.i x1.2.2],_,(B3 rfl (B3 rfl B6)),(A8 rfl (A8 rfl B9)),(A5p (A5 A9 (A5 A9 B4)) (I0 rfl (I0 rfl Z4)) (T6 _ _ _)),?_⟩
  refine qm rfl<|A1 (A6 rfl rfl) rfl<|A1 (A6 rfl rfl) rfl<|qm rfl<|qm rfl<|es (ra4 rfl rfl rfl rfl)<|C1<|s0<|qm rfl<|A1 (R1 rfl rfl) rfl<|es (ra5 rfl rfl rfl rfl rfl)<|N5 rfl hc2<|s0<|qm rfl<|qm rfl<|qm rfl<|es (ra2 rfl rfl)<|D0 ?_
  obtain rfl:=os h
  exact retq trivial (B3 rfl (B3 rfl B6)) (A8 rfl (A8 rfl B9)) (A5 G3 (A5 A9 B4))
 ·refine C9<|sg 2 rfl<|A1 (C5 rfl rfl rfl) rfl<|A1 A66 rfl<|A1 (I4 (cs:=[(.seq 1 (List.map cI a0.Costs)),(.seq 1 (List.map cI a0.Ounces)),(.seq 3 (List.map A3 a0.Figures)),(.seq 3 (List.map A3 a0.Persons)),(.mp (H.length + 2))]) rfl rfl) rfl<|A1 (H8 (cs:=[(.seq 1 (List.map cI a0.Costs)),(.seq 1 (List.map cI a0.Ounces)),(.seq 3 (List.map A3 a0.Figures)),(.seq 3 (List.map A3 a0.Persons)),(.mp (H.length + 2))]) rfl rfl rfl) rfl<|qm rfl<|es (ra2 rfl rfl)<|C1<|s0<|A1 (D6 rfl) rfl<|A1 (D5 rfl rfl rfl) rfl<|A1 (E6 (f:=A3) rfl) rfl<|qm rfl<|es (ra5 rfl rfl rfl rfl rfl)<|C6<|oB h fun o13 ho13 h=>wl (fun s3=>[(1,(.ptr (H.length + 1) 0)),(7,(.ptr (H.length + 3) 0)),(26,(.seq 3 (List.map A3 a0.Figures))),(27,(.i (List.length a0.Figures:Int))),(28,.i s3.1)]) (fun (q4:Unit) s3=>[(.cells (A7 a0)),(.cells (A7 a0)),(.map (List.map (kE (fun x=>(.agg (C3 x))) (fun x=>(.agg (B2 x)))) s3.2)),(.cells [(.seq 1 (List.map cI a0.Costs)),(.seq 1 (List.map cI a0.Ounces)),(.seq 3 (List.map A3 a0.Figures)),(.seq 3 (List.map A3 a0.Persons)),(.mp (H.length + 2))])]) 4 (fun r e s' H'=>PX 0 [(7,(.ptr (H.length + 3) 0))] (H++[(.cells (A7 a0)),(.cells (A7 a0)),(.map (List.map (kE (fun x=>(.agg (C3 x))) (fun x=>(.agg (B2 x)))) r)),(.cells [(.seq 1 (List.map cI a0.Costs)),(.seq 1 (List.map cI a0.Ounces)),(.seq 3 (List.map A3 a0.Figures)),(.seq 3 (List.map A3 a0.Persons)),(.mp (H.length + 2))])]) e s' H') () ho13 rfl rfl (fun _ _=>rfl) (fun _=>rfl) rfl (fun s3=>(bdc (F3 rfl) (bdc (F3 rfl) (bdc G3 (bdc A9 (bdc A9 bdn)))))) (fun q4 s3 ys3 hs3=>?_) ?_
  ·unfold A6i at hs3
   refine s0<|A1 (L8 rfl rfl) rfl<|es (ra6 rfl rfl rfl rfl rfl rfl)<|C1<|wi hs3 rfl (fun hc5 hs3=>?_) fun hc5 hs3=>?_
   ·refine C9<|C1<|C6<|sg 4 rfl<|oB hs3 fun x6 hx6 hs3=>qm rfl<|A1 (L4 (f:=A3) rfl rfl hx6) rfl<|A1 (Q0 rfl rfl) rfl<|A1 D9 rfl<|qm rfl<|F8 (C4 (ds:=(A3 x6)) rfl rfl rfl rfl (C0 rfl) rfl) rfl<|es (ra7 rfl rfl rfl rfl rfl rfl rfl)<|s0<|A1 (D6 rfl) rfl<|A1 (D5 rfl rfl rfl) rfl<|A1 (E6 (f:=A3) rfl) rfl<|qm rfl<|es (ra10 rfl rfl rfl rfl rfl rfl rfl rfl rfl rfl)<|C6<|oB hs3 fun o12 ho12 hs3=>wl (fun s7=>[(1,(.ptr (H.length + 1) 0)),(7,(.ptr (H.length + 3) 0)),(8,.i s3.1),(9,(.ptr (H.length + 4) 0)),(26,(.seq 3 (List.map A3 a0.Figures))),(27,(.i (List.length a0.Figures:Int))),(28,.i s3.1),(34,(.seq 3 (List.map A3 a0.Persons))),(35,(.i (List.length a0.Persons:Int))),(36,.i s7.1)]) (fun (q8:Unit) s7=>[(.cells (A7 a0)),(.cells (A7 a0)),(.map (List.map (kE (fun x=>(.agg (C3 x))) (fun x=>(.agg (B2 x)))) s7.2)),(.cells [(.seq 1 (List.map cI a0.Costs)),(.seq 1 (List.map cI a0.Ounces)),(.seq 3 (List.map A3 a0.Figures)),(.seq 3 (List.map A3 a0.Persons)),(.mp (H.length + 2))]),(.cells (A3 x6))]) 5 (fun r e s' H'=>PX 2 [(1,(.ptr (H.length + 1) 0)),(7,(.ptr (H.length + 3) 0)),(26,(.seq 3 (List.map A3 a0.Figures))),(27,(.i (List.length a0.Figures:Int))),(28,.i s3.1)] (H++[(.cells (A7 a0)),(.cells (A7 a0)),(.map (List.map (kE (fun x=>(.agg (C3 x))) (fun x=>(.agg (B2 x)))) r)),(.cells [(.seq 1 (List.map cI a0.Costs)),(.seq 1 (List.map cI a0.Ounces)),(.seq 3 (List.map A3 a0.Figures)),(.seq 3 (List.map A3 a0.Persons)),(.mp (H.length + 2))]),(.cells (A3 x6))]) e s' H') () ho12 rfl rfl (fun _ _=>rfl) (fun _=>rfl) rfl (fun s7=>(bdc (F3 rfl) (bdc (F3 rfl) (bdc A9 (bdc (F3 rfl) (bdc G3 (bdc A9 (bdc A9 (bdc G3 (bdc A9 (bdc A9 bdn))))))))))) (fun q8 s7 ys7 hs7=>?_) ?_
    ·unfold A6h at hs7
     refine s0<|A1 (L8 rfl rfl) rfl<|es (ra11 rfl rfl rfl rfl rfl rfl rfl rfl rfl rfl rfl)<|C1<|wi hs7 rfl (fun hc9 hs7=>?_) fun hc9 hs7=>?_
     ·refine C9<|C1<|C6<|sg 5 rfl<|oB hs7 fun x10 hx10 hs7=>qm rfl<|A1 (L4 (f:=A3) rfl rfl hx10) rfl<|A1 (Q0 rfl rfl) rfl<|A1 D9 rfl<|qm rfl<|F8 (C4 (ds:=(A3 x10)) rfl rfl rfl rfl (C0 rfl) rfl) rfl<|es (ra12 rfl rfl rfl rfl rfl rfl rfl rfl rfl rfl rfl rfl)<|r0<|oB hs7 fun x11 hx11 hs7=>qm rfl<|A1 (V4 rfl rfl) rfl<|A1 (D6 rfl) rfl<|A1 (D5 (x:=(.mp (H.length + 2))) rfl rfl rfl) rfl<|qm rfl<|qm rfl<|A1 (I4 (cs:=C3 (dress_pair.mk s3.1 s7.1)) rfl rfl) rfl<|qm rfl<|A1 (C5 rfl rfl rfl) rfl<|A1 (C5 rfl rfl rfl) rfl<|W7 (rs:=[(.agg (B2 x11))]) rfl rfl (J8 rfl (J8 rfl (J8 rfl A00))) (A4 rfl (A4 (E4 rfl) (A4 (E4 rfl) B8))) ((N0 (U5 rfl) hx11).frz)<|F8 (A64 (av:=(fun x=>(.agg (C3 x)))) (gv:=(fun x=>(.agg (B2 x)))) (k:=(dress_pair.mk s3.1 s7.1)) (v:=x11) M3 rfl rfl rfl rfl rfl) rfl<|en (ra10 rfl rfl rfl rfl rfl rfl rfl rfl rfl rfl)<|r0<|A1 (G9 rfl rfl) rfl<|qm rfl<|en (ra10 rfl rfl rfl rfl rfl rfl rfl rfl rfl rfl) ?_
      cases hs7
      exact lnT () rfl (su10 rfl rfl rfl rfl rfl rfl rfl rfl rfl rfl)
     ·refine I5 ?_
      obtain rfl:=os hs7
      exact lx rfl px (su5 rfl rfl rfl rfl rfl)
    ·rintro e s' H' - ⟨rfl,rfl,rfl⟩
     refine r0<|A1 (G9 rfl rfl) rfl<|qm rfl<|en (ra5 rfl rfl rfl rfl rfl) ?_
     cases hs3
     exact lnT () rfl (su5 rfl rfl rfl rfl rfl)
   ·refine I5 ?_
    obtain rfl:=os hs3
    exact lx rfl px (su1 rfl)
  ·rintro e s' H' - ⟨rfl,rfl,rfl⟩
   refine s0<|qm rfl<|qm rfl<|qm rfl<|es (ra2 rfl rfl)<|D0<|InlQ.mk trivial ⟨_,_,_,[(.ptr (H.length + 3) 0),.i 0],_,(B3 rfl (B3 rfl B6)),(A8 rfl (A8 rfl B9)),(A3f (Y7 (A20 rfl)) (I0 rfl (I0 rfl Z4))),?_⟩
   refine qm rfl<|A1 (A6 rfl rfl) rfl<|A1 (A6 rfl rfl) rfl<|qm rfl<|qm rfl<|es (ra4 rfl rfl rfl rfl)<|C1<|s0<|qm rfl<|A1 (K3 (v:=(.b false)) rfl rfl rfl) rfl<|es (ra5 rfl rfl rfl rfl rfl)<|T2 rfl rfl<|C9<|s0<|qm rfl<|es (ra4 rfl rfl rfl rfl)<|C1<|s0<|oB h fun x14 hx14 h=>A1 (D6 rfl) rfl<|A1 (D5 rfl rfl rfl) rfl<|A1 (E6 (f:=A3) rfl) rfl<|A1 (B6h rfl rfl hx14) rfl<|qm rfl<|es (ra6 rfl rfl rfl rfl rfl rfl)<|C6<|oB h fun o36 ho36 h=>wl (fun s15=>[(1,(.ptr (H.length + 0) 0)),(2,(.seq 1 (List.map cI s15.1))),(4,(.ptr (H.length + 3) 0)),(5,.b s15.2.1),(20,.i x14),(21,.i s15.2.2)]) (fun (q16:Unit) s15=>[(.cells (A7 a0)),(.cells (A7 a0)),(.map (List.map (kE (fun x=>(.agg (C3 x))) (fun x=>(.agg (B2 x)))) o13)),(.cells [(.seq 1 (List.map cI a0.Costs)),(.seq 1 (List.map cI a0.Ounces)),(.seq 3 (List.map A3 a0.Figures)),(.seq 3 (List.map A3 a0.Persons)),(.mp (H.length + 2))])]) 4 (fun r e s' H'=>PX 0 [(2,(.seq 1 (List.map cI r)))] (H++[(.cells (A7 a0)),(.cells (A7 a0)),(.map (List.map (kE (fun x=>(.agg (C3 x))) (fun x=>(.agg (B2 x)))) o13)),(.cells [(.seq 1 (List.map cI a0.Costs)),(.seq 1 (List.map cI a0.Ounces)),(.seq 3 (List.map A3 a0.Figures)),(.seq 3 (List.map A3 a0.Persons)),(.mp (H.length + 2))])]) e s' H') () ho36 rfl rfl (fun _ _=>rfl) (fun _=>rfl) rfl (fun s15=>(bdc (F3 rfl) (bdc G3 (bdc (F3 rfl) (bdc A9 (bdc A9 (bdc A9 bdn))))))) (fun q16 s15 ys15 hs15=>?_) ?_
   ·unfold A6k at hs15
    refine s0<|A1 (L8 rfl rfl) rfl<|es (ra7 rfl rfl rfl rfl rfl rfl rfl)<|C1<|wi hs15 rfl (fun hc17 hs15=>?_) fun hc17 hs15=>?_
    ·refine C9<|C1<|C6<|s0<|qm rfl<|qm rfl<|es (ra7 rfl rfl rfl rfl rfl rfl rfl)<|sg 4 rfl<|A1 B1a rfl<|es (ra8 rfl rfl rfl rfl rfl rfl rfl rfl)<|C1<|s0<|A1 (D6 rfl) rfl<|A1 (D5 rfl rfl rfl) rfl<|A1 (E6 (f:=A3) rfl) rfl<|qm rfl<|es (ra10 rfl rfl rfl rfl rfl rfl rfl rfl rfl rfl)<|C6<|oB hs15 fun o24 ho24 hs15=>wl (fun s18=>[(1,(.ptr (H.length + 0) 0)),(2,(.seq 1 (List.map cI s15.1))),(4,(.ptr (H.length + 3) 0)),(5,.b s15.2.1),(6,.i s15.2.2),(7,(.asl (H.length + 4) (List.length s18.2))),(20,.i x14),(21,.i s15.2.2),(26,(.i (List.length a0.Persons:Int))),(27,.i s18.1)]) (fun (q19:Unit) s18=>[(.cells (A7 a0)),(.cells (A7 a0)),(.map (List.map (kE (fun x=>(.agg (C3 x))) (fun x=>(.agg (B2 x)))) o13)),(.cells [(.seq 1 (List.map cI a0.Costs)),(.seq 1 (List.map cI a0.Ounces)),(.seq 3 (List.map A3 a0.Figures)),(.seq 3 (List.map A3 a0.Persons)),(.mp (H.length + 2))]),(.arr 1 false (List.map cI s18.2))]) 5 (fun r e s' H'=>PX 2 [(1,(.ptr (H.length + 0) 0)),(2,(.seq 1 (List.map cI s15.1))),(4,(.ptr (H.length + 3) 0)),(5,.b s15.2.1),(6,.i s15.2.2),(7,(.asl (H.length + 4) (List.length r))),(20,.i x14),(21,.i s15.2.2)] (H++[(.cells (A7 a0)),(.cells (A7 a0)),(.map (List.map (kE (fun x=>(.agg (C3 x))) (fun x=>(.agg (B2 x)))) o13)),(.cells [(.seq 1 (List.map cI a0.Costs)),(.seq 1 (List.map cI a0.Ounces)),(.seq 3 (List.map A3 a0.Figures)),(.seq 3 (List.map A3 a0.Persons)),(.mp (H.length + 2))]),(.arr 1 false (List.map cI r))]) e s' H') () ho24 rfl rfl (fun _ _=>rfl) (fun _=>rfl) rfl (fun s18=>(bdc (F3 rfl) (bdc G3 (bdc (F3 rfl) (bdc A9 (bdc A9 (bdc (A7w rfl) (bdc A9 (bdc A9 (bdc A9 (bdc A9 bdn))))))))))) (fun q19 s18 ys18 hs18=>?_) ?_
     ·unfold A6j at hs18
      refine s0<|A1 (L8 rfl rfl) rfl<|es (ra11 rfl rfl rfl rfl rfl rfl rfl rfl rfl rfl rfl)<|C1<|wi hs18 rfl (fun hc20 hs18=>?_) fun hc20 hs18=>?_
      ·refine C9<|C1<|C6<|s0<|qm rfl<|qm rfl<|es (ra11 rfl rfl rfl rfl rfl rfl rfl rfl rfl rfl rfl)<|s0<|oB hs18 fun x21 hx21 hs18=>qm rfl<|qm rfl<|A1 (B1b rfl rfl hx21) rfl<|A1 (K3 (v:=(.i (B2i x21 1))) rfl rfl rfl) rfl<|A1 (J3 rfl rfl) rfl<|es (ra12 rfl rfl rfl rfl rfl rfl rfl rfl rfl rfl rfl rfl)<|wi hs18 rfl (fun hc22 hs18=>?_) fun hc22 hs18=>?_
       ·refine r0<|oB hs18 fun x23 hx23 hs18=>qm rfl<|qm rfl<|A1 (I2 (rows:=List.map cI [s18.1]) rfl rfl (E0 (fun _=>rfl) _)) rfl<|R8 (B06 (f:=cI) rfl rfl rfl rfl A4i (fun _=>rfl) hx23) rfl<|qm rfl<|en (ra10 rfl rfl rfl rfl rfl rfl rfl rfl rfl rfl)<|r0<|A1 (G9 rfl rfl) rfl<|qm rfl<|en (ra10 rfl rfl rfl rfl rfl rfl rfl rfl rfl rfl) ?_
        cases hs18
        exact lnT () rfl (su10 rfl rfl rfl rfl rfl rfl rfl rfl rfl rfl)
       ·refine C9<|r0<|A1 (G9 rfl rfl) rfl<|qm rfl<|en (ra10 rfl rfl rfl rfl rfl rfl rfl rfl rfl rfl) ?_
        cases hs18
        exact lnT () rfl (su10 rfl rfl rfl rfl rfl rfl rfl rfl rfl rfl)
      ·refine I5 ?_
       obtain rfl:=os hs18
       exact lx rfl px (su8 rfl rfl rfl rfl rfl rfl rfl rfl)
     ·rintro e s' H' - ⟨rfl,rfl,rfl⟩
      refine C1<|C1<|C8m (C4w rfl (B0l rfl (List.length_map _)))<|r0<|oB hs15 fun x31 hx31 hs15=>qm rfl<|qm rfl<|gp 19 60 (.b x31) 41 rfl rfl (fun hg25=>?_) (fun hg25=>?_) ?_
      ·refine oB (bt hx31 hg25) fun x30 hx30 hx31=>?_
       obtain rfl:=os hx31
       refine gT rfl hg25<|qm rfl<|gT rfl hg25<|A1 (B09 (f:=cI) rfl rfl rfl) rfl<|gT rfl hg25<|qm rfl<|gT rfl hg25<|A1 (E6 (f:=cI) rfl) rfl<|gT rfl hg25<|A1 (A8t rfl rfl) rfl<|gT rfl hg25<|qm rfl<|gq 12 59 (.b x30) 47 rfl rfl (fun hg26=>?_) (fun hg26=>?_) ?_
       ·obtain rfl:=os (bt hx30 hg26)
        exact nF rfl hg26 rfl<|nF rfl hg26 rfl<|nF rfl hg26 rfl<|nF rfl hg26 rfl<|nF rfl hg26 rfl<|nF rfl hg26 rfl<|nX rfl rfl<|nX rfl rfl<|S8 (B2c rfl) rfl<|nX rfl rfl<|nF rfl hg26 rfl<|gT rfl hg25<|A1 (D8 rfl hg26 rfl) rfl<|ge 12 rfl rfl rfl
       ·refine oB (bf hx30 hg26) fun x29 hx29 hx30=>?_
        obtain rfl:=os hx30
        refine gF rfl hg26<|qm rfl<|gF rfl hg26<|A1 (B09 (f:=cI) rfl rfl rfl) rfl<|gF rfl hg26<|qm rfl<|gF rfl hg26<|A1 (E6 (f:=cI) rfl) rfl<|gF rfl hg26<|A1 (J3 rfl rfl) rfl<|gF rfl hg26<|qm rfl<|gq 5 58 (.b x29) 53 rfl rfl (fun hg27=>?_) (fun hg27=>?_) ?_
        ·refine oB (bt hx29 hg27) fun x28 hx28 hx29=>?_
         obtain rfl:=os hx29
         exact gT rfl hg27<|qm rfl<|gT rfl hg27<|qm rfl<|gT rfl hg27<|C2 (rs:=[.i x28]) rfl rfl (A4 (B0l rfl (List.length_map _)) (A4 rfl B8)) ((A1v hx28).frz)<|gT rfl hg27<|A1 (A8t rfl rfl) rfl<|gF rfl hg26<|A1 (D8 rfl hg27 rfl) rfl<|ge 5 rfl rfl rfl
        ·obtain rfl:=os (bf hx29 hg27)
         exact nT rfl hg27 rfl<|nT rfl hg27 rfl<|S8 (K8 rfl (by rw [hg27]; rfl)) rfl<|nT rfl hg27 rfl<|gF rfl hg26<|A1 (D7 rfl hg27 rfl) rfl<|ge 5 rfl rfl rfl
        exact gT rfl hg25<|A1 (D7 rfl hg26 rfl) rfl<|ge 8 rfl rfl rfl
       exact A1 (D8 rfl hg25 rfl) rfl<|ge 8 rfl rfl rfl
      ·obtain rfl:=os (bf hx31 hg25)
       exact nT rfl hg25 rfl<|nT rfl hg25 rfl<|nT rfl hg25 rfl<|nT rfl hg25 rfl<|nT rfl hg25 rfl<|nT rfl hg25 rfl<|nX rfl rfl<|nX rfl rfl<|nX rfl rfl<|nX rfl rfl<|nX rfl rfl<|nX rfl rfl<|nX rfl rfl<|nX rfl rfl<|S8 (B2c rfl) rfl<|nX rfl rfl<|nX rfl rfl<|nT rfl hg25 rfl<|A1 (D7 rfl hg25 rfl) rfl<|ge 19 rfl rfl rfl
      refine es (ra9 rfl rfl rfl rfl rfl rfl rfl rfl rfl)<|wi hs15 rfl (fun hc32 hs15=>?_) fun hc32 hs15=>?_
      ·refine I5<|r0<|A1 (G9 rfl rfl) rfl<|qm rfl<|en (ra6 rfl rfl rfl rfl rfl rfl) ?_
       cases hs15
       exact lnT () rfl (su6 rfl rfl rfl rfl rfl rfl)
      ·refine C9<|s0<|oB hs15 fun x33 hx33 hs15=>oB hs15 fun x34 hx34 hs15=>qm rfl<|qm rfl<|C2 (rs:=[.i x33]) rfl rfl (A4 rfl B8) ((J6 (D2 rfl) hx33).frz)<|qm rfl<|A1 (K3 (v:=(.i (A9q x33 s15.2.2))) rfl rfl rfl) rfl<|C2 (rs:=[(.seq 6 (List.map A2 x34))]) rfl rfl (A4 rfl (A4 rfl B8)) (B4y (t:=a0) (ch:=o13) ⟨_,D2 rfl,W5 rfl⟩ (C8k (k:=4) (l:=[]) rfl (A2h (l:=[]) hscv) rfl) hx34)<|A1 (E6 (f:=A2) rfl) rfl<|A1 (A8t rfl rfl) rfl<|es (ra8 rfl rfl rfl rfl rfl rfl rfl rfl)<|wi hs15 rfl (fun hc35 hs15=>?_) fun hc35 hs15=>?_
       ·refine r0<|qm rfl<|R8 (C57 rfl rfl (List.length_map _)) rfl<|qm rfl<|en (ra6 rfl rfl rfl rfl rfl rfl)<|r0<|A1 (G9 rfl rfl) rfl<|qm rfl<|en (ra6 rfl rfl rfl rfl rfl rfl) ?_
        cases hs15
        exact lnT () rfl (su6 rfl rfl rfl rfl rfl rfl)
       ·refine C9<|r0<|A1 (G9 rfl rfl) rfl<|qm rfl<|en (ra6 rfl rfl rfl rfl rfl rfl) ?_
        cases hs15
        exact lnT () rfl (su6 rfl rfl rfl rfl rfl rfl)
    ·refine I5 ?_
     obtain rfl:=os hs15
     exact lx rfl px (su1 rfl)
   ·rintro e s' H' - ⟨rfl,rfl,rfl⟩
    refine s0<|qm rfl<|qm rfl<|qm rfl<|es (ra2 rfl rfl)<|D0 ?_
    obtain rfl:=os h
    exact retq trivial (B3 rfl (B3 rfl B6)) (A8 rfl (A8 rfl B9)) (A5 G3 (A5 A9 B4))
def A32 (a0:DrRoom) (s3:(Int × (List (dress_pair × dress_change)))) (x6:DrLook) (s7:(Int × (List (dress_pair × dress_change)))):Option ((Int × (List (dress_pair × dress_change))) ⊕ (List (dress_pair × dress_change))) :=
 if (decide (s7.1 < (List.length a0.Persons:Int))) = true then
  (idx a0.Persons s7.1).bind fun x10 =>
  (N2 (dress_room.mk a0) x6 x10).bind fun x11 =>
  some (.inl ((w64 (s7.1 + 1)),(kset s7.2 (dress_pair.mk s3.1 s7.1) x11)))
 else
  some (.inr s7.2)
def A33 (a0:DrRoom) (s3:(Int × (List (dress_pair × dress_change)))):Option ((Int × (List (dress_pair × dress_change))) ⊕ (List (dress_pair × dress_change))) :=
 if (decide (s3.1 < (List.length a0.Figures:Int))) = true then
  (idx a0.Figures s3.1).bind fun x6 =>
  (loop (A32 a0 s3 x6) (0,s3.2)).bind fun (o12:(List (dress_pair × dress_change))) =>
  some (.inl ((w64 (s3.1 + 1)),o12))
 else
  some (.inr s3.2)
def A0n (a0:DrRoom) (a1:Int):Option (Int × Int) :=
 (L2 a0).bind fun x1 =>
 if (x1.2.2 != 0) = true then
  some (0,x1.2.2)
 else
  (loop (A33 a0) (0,([]:(List (dress_pair × dress_change))))).bind fun (o13:(List (dress_pair × dress_change))) =>
  (K1 0 (w64 ((List.length a0.Persons:Int) - 1)) [a1]).bind fun x14 =>
  if x14 = true then
  some (0,4)
  else
  (J1 (dress_room.mk a0)).bind fun x16 =>
  (P4 a0 o13 x16).bind fun x17 =>
  if (!x17.2) = true then
   some (0,9)
  else
   (J1 (dress_room.mk a0)).bind fun x19 =>
   (B8r .i64 1 a1).bind fun x20 =>
   (P4 a0 o13 (A9q x19 x20)).bind fun x21 =>
   if (!x21.2) = true then
   some (0,9)
   else
   some ((w64 (x17.1.cost_ - x21.1.cost_)),0)
theorem A1m {c:Sc} {H:A0} (hscv:O5 c H = true) {a0:DrRoom} {a1:Int} {r:(Int × Int)} (h:A0n a0 a1 = some r) :
  F2 tab c H (.fn (.func 30) [] []) [(.agg (A7 a0)),.i a1] [.i r.1,.i r.2]:= by
 unfold A0n at h
 refine cE rfl rfl<|sg 0 rfl<|A1 (H8 (cs:=A7 a0) rfl rfl rfl) rfl<|qm rfl<|qm rfl<|es (ra2 rfl rfl)<|sg 1 rfl<|A1 (C5 rfl rfl rfl) rfl<|qm rfl<|A0f (as2:=[(.agg (A7 a0)),.i a1]) (H1:=(H++[(.cells (A7 a0)),.dead])) rfl rfl (A4 (E4 rfl) (A4 rfl B8)) rfl rfl rfl (A3g rfl)<|sg 2 rfl<|A1 (H8 (cs:=A7 a0) rfl rfl rfl) rfl<|qm rfl<|A1 D9 rfl<|qm rfl<|es (ra3 rfl rfl rfl)<|s0<|A1 (C5 rfl rfl rfl) rfl<|A0f (as2:=[(.agg (A7 a0))]) (H1:=(H++[(.cells (A7 a0)),.dead,(.cells (A7 a0)),(.cells (A2 (dress_plan.mk ([]:List Int) 0 (Ar4.mk 0 0 0 0))))])) rfl rfl (A4 (E4 rfl) B8) rfl rfl rfl (A3g rfl)<|sg 4 rfl<|A1 (H8 (cs:=A7 a0) rfl rfl rfl) rfl<|qm rfl<|qm rfl<|es (ra1 rfl)<|C1<|s0<|oB h fun x1 hx1 h=>A1 (C5 rfl rfl rfl) rfl<|C2 (rs:=[.i x1.1,.i x1.2.1,.i x1.2.2]) rfl rfl (A4 (E4 rfl) B8) ((R2 hx1).frz)<|qm rfl<|A1 (A6 rfl rfl) rfl<|A1 (A6 rfl rfl) rfl<|A1 (A6 rfl rfl) rfl<|qm rfl<|qm rfl<|qm rfl<|es (ra2 rfl rfl)<|s0<|qm rfl<|A1 (R1 rfl rfl) rfl<|es (ra3 rfl rfl rfl)<|wi h rfl (fun hc2 h=>?_) fun hc2 h=>?_
 ·refine s0<|qm rfl<|qm rfl<|qm rfl<|es (ra2 rfl rfl)<|D0<|InlQ.mk trivial ⟨_,_,_,[(.lit (.pointer none)),.i x1.2.2],_,(B3 rfl (B3 rfl B6)),(A8 rfl (A8 rfl B9)),(A5p (A5 A9 (A5 A9 B4)) (I0 rfl (I0 rfl Z4)) (T6 _ _ _)),?_⟩
  refine qm rfl<|A1 (A6 rfl rfl) rfl<|A1 (A6 rfl rfl) rfl<|qm rfl<|qm rfl<|es (ra5 rfl rfl rfl rfl rfl)<|C1<|C6<|s0<|qm rfl<|A1 (R1 rfl rfl) rfl<|qm rfl<|es (ra6 rfl rfl rfl rfl rfl rfl)<|N5 rfl hc2<|s0<|A1 (I4 (cs:=A2 (dress_plan.mk ([]:List Int) 0 (Ar4.mk 0 0 0 0))) rfl rfl) rfl<|qm rfl<|qm rfl<|F8 (C4 (ds:=(A2 (dress_plan.mk ([]:List Int) 0 (Ar4.mk 0 0 0 0)))) rfl rfl rfl rfl (C0 rfl) rfl) rfl<|qm rfl<|es (ra3 rfl rfl rfl)<|D0<|InlQ.mk trivial ⟨_,_,_,[(.lit (.pointer none)),(.agg (A2 (dress_plan.mk ([]:List Int) 0 (Ar4.mk 0 0 0 0)))),.i x1.2.2],_,(B3 rfl (L7 (G1 (ds:=A2 (dress_plan.mk ([]:List Int) 0 (Ar4.mk 0 0 0 0))) rfl rfl rfl rfl) (B3 rfl B6))),(A8 rfl (A8 (W2 rfl) (A8 rfl B9))),(A5p (A5 A9 (A5 (T9 rfl) (A5 A9 B4))) (I0 rfl (I0 rfl (I0 rfl Z4))) (T6 _ _ _)),?_⟩
  refine qm rfl<|A1 (A6 rfl rfl) rfl<|A1 (A6 rfl rfl) rfl<|A1 (A6 rfl rfl) rfl<|A1 D9 rfl<|qm rfl<|F8 (C4 (ds:=(A2 (dress_plan.mk ([]:List Int) 0 (Ar4.mk 0 0 0 0)))) rfl rfl rfl rfl (C0 rfl) rfl) rfl<|qm rfl<|es (ra4 rfl rfl rfl rfl)<|C1<|s0<|qm rfl<|A1 (R1 rfl rfl) rfl<|es (ra5 rfl rfl rfl rfl rfl)<|N5 rfl hc2<|s0<|qm rfl<|qm rfl<|qm rfl<|es (ra2 rfl rfl)<|D0 ?_
  obtain rfl:=os h
  exact retq trivial (B3 rfl (B3 rfl B6)) (A8 rfl (A8 rfl B9)) (A5 A9 (A5 A9 B4))
 ·refine C9<|sg 5 rfl<|A1 (C5 rfl rfl rfl) rfl<|A1 A66 rfl<|A1 (I4 (cs:=[(.seq 1 (List.map cI a0.Costs)),(.seq 1 (List.map cI a0.Ounces)),(.seq 3 (List.map A3 a0.Figures)),(.seq 3 (List.map A3 a0.Persons)),(.mp (H.length + 5))]) rfl rfl) rfl<|A1 (H8 (cs:=[(.seq 1 (List.map cI a0.Costs)),(.seq 1 (List.map cI a0.Ounces)),(.seq 3 (List.map A3 a0.Figures)),(.seq 3 (List.map A3 a0.Persons)),(.mp (H.length + 5))]) rfl rfl rfl) rfl<|qm rfl<|es (ra2 rfl rfl)<|C1<|s0<|A1 (D6 rfl) rfl<|A1 (D5 rfl rfl rfl) rfl<|A1 (E6 (f:=A3) rfl) rfl<|qm rfl<|es (ra5 rfl rfl rfl rfl rfl)<|C6<|oB h fun o13 ho13 h=>wl (fun s3=>[(1,(.ptr (H.length + 4) 0)),(7,(.ptr (H.length + 6) 0)),(26,(.seq 3 (List.map A3 a0.Figures))),(27,(.i (List.length a0.Figures:Int))),(28,.i s3.1)]) (fun (q4:Unit) s3=>[(.cells (A7 a0)),.dead,(.cells (A7 a0)),(.cells (A2 (dress_plan.mk ([]:List Int) 0 (Ar4.mk 0 0 0 0)))),(.cells (A7 a0)),(.map (List.map (kE (fun x=>(.agg (C3 x))) (fun x=>(.agg (B2 x)))) s3.2)),(.cells [(.seq 1 (List.map cI a0.Costs)),(.seq 1 (List.map cI a0.Ounces)),(.seq 3 (List.map A3 a0.Figures)),(.seq 3 (List.map A3 a0.Persons)),(.mp (H.length + 5))])]) 7 (fun r e s' H'=>PX 0 [(7,(.ptr (H.length + 6) 0))] (H++[(.cells (A7 a0)),.dead,(.cells (A7 a0)),(.cells (A2 (dress_plan.mk ([]:List Int) 0 (Ar4.mk 0 0 0 0)))),(.cells (A7 a0)),(.map (List.map (kE (fun x=>(.agg (C3 x))) (fun x=>(.agg (B2 x)))) r)),(.cells [(.seq 1 (List.map cI a0.Costs)),(.seq 1 (List.map cI a0.Ounces)),(.seq 3 (List.map A3 a0.Figures)),(.seq 3 (List.map A3 a0.Persons)),(.mp (H.length + 5))])]) e s' H') () ho13 rfl rfl (fun _ _=>rfl) (fun _=>rfl) rfl (fun s3=>(bdc (F3 rfl) (bdc (F3 rfl) (bdc G3 (bdc A9 (bdc A9 bdn)))))) (fun q4 s3 ys3 hs3=>?_) ?_
  ·unfold A33 at hs3
   refine s0<|A1 (L8 rfl rfl) rfl<|es (ra6 rfl rfl rfl rfl rfl rfl)<|C1<|wi hs3 rfl (fun hc5 hs3=>?_) fun hc5 hs3=>?_
   ·refine C9<|C1<|C6<|sg 7 rfl<|oB hs3 fun x6 hx6 hs3=>qm rfl<|A1 (L4 (f:=A3) rfl rfl hx6) rfl<|A1 (Q0 rfl rfl) rfl<|A1 D9 rfl<|qm rfl<|F8 (C4 (ds:=(A3 x6)) rfl rfl rfl rfl (C0 rfl) rfl) rfl<|es (ra7 rfl rfl rfl rfl rfl rfl rfl)<|s0<|A1 (D6 rfl) rfl<|A1 (D5 rfl rfl rfl) rfl<|A1 (E6 (f:=A3) rfl) rfl<|qm rfl<|es (ra10 rfl rfl rfl rfl rfl rfl rfl rfl rfl rfl)<|C6<|oB hs3 fun o12 ho12 hs3=>wl (fun s7=>[(1,(.ptr (H.length + 4) 0)),(7,(.ptr (H.length + 6) 0)),(8,.i s3.1),(9,(.ptr (H.length + 7) 0)),(26,(.seq 3 (List.map A3 a0.Figures))),(27,(.i (List.length a0.Figures:Int))),(28,.i s3.1),(34,(.seq 3 (List.map A3 a0.Persons))),(35,(.i (List.length a0.Persons:Int))),(36,.i s7.1)]) (fun (q8:Unit) s7=>[(.cells (A7 a0)),.dead,(.cells (A7 a0)),(.cells (A2 (dress_plan.mk ([]:List Int) 0 (Ar4.mk 0 0 0 0)))),(.cells (A7 a0)),(.map (List.map (kE (fun x=>(.agg (C3 x))) (fun x=>(.agg (B2 x)))) s7.2)),(.cells [(.seq 1 (List.map cI a0.Costs)),(.seq 1 (List.map cI a0.Ounces)),(.seq 3 (List.map A3 a0.Figures)),(.seq 3 (List.map A3 a0.Persons)),(.mp (H.length + 5))]),(.cells (A3 x6))]) 8 (fun r e s' H'=>PX 2 [(1,(.ptr (H.length + 4) 0)),(7,(.ptr (H.length + 6) 0)),(26,(.seq 3 (List.map A3 a0.Figures))),(27,(.i (List.length a0.Figures:Int))),(28,.i s3.1)] (H++[(.cells (A7 a0)),.dead,(.cells (A7 a0)),(.cells (A2 (dress_plan.mk ([]:List Int) 0 (Ar4.mk 0 0 0 0)))),(.cells (A7 a0)),(.map (List.map (kE (fun x=>(.agg (C3 x))) (fun x=>(.agg (B2 x)))) r)),(.cells [(.seq 1 (List.map cI a0.Costs)),(.seq 1 (List.map cI a0.Ounces)),(.seq 3 (List.map A3 a0.Figures)),(.seq 3 (List.map A3 a0.Persons)),(.mp (H.length + 5))]),(.cells (A3 x6))]) e s' H') () ho12 rfl rfl (fun _ _=>rfl) (fun _=>rfl) rfl (fun s7=>(bdc (F3 rfl) (bdc (F3 rfl) (bdc A9 (bdc (F3 rfl) (bdc G3 (bdc A9 (bdc A9 (bdc G3 (bdc A9 (bdc A9 bdn))))))))))) (fun q8 s7 ys7 hs7=>?_) ?_
    ·unfold A32 at hs7
     refine s0<|A1 (L8 rfl rfl) rfl<|es (ra11 rfl rfl rfl rfl rfl rfl rfl rfl rfl rfl rfl)<|C1<|wi hs7 rfl (fun hc9 hs7=>?_) fun hc9 hs7=>?_
     ·refine C9<|C1<|C6<|sg 8 rfl<|oB hs7 fun x10 hx10 hs7=>qm rfl<|A1 (L4 (f:=A3) rfl rfl hx10) rfl<|A1 (Q0 rfl rfl) rfl<|A1 D9 rfl<|qm rfl<|F8 (C4 (ds:=(A3 x10)) rfl rfl rfl rfl (C0 rfl) rfl) rfl<|es (ra12 rfl rfl rfl rfl rfl rfl rfl rfl rfl rfl rfl rfl)<|r0<|oB hs7 fun x11 hx11 hs7=>qm rfl<|A1 (V4 rfl rfl) rfl<|A1 (D6 rfl) rfl<|A1 (D5 (x:=(.mp (H.length + 5))) rfl rfl rfl) rfl<|qm rfl<|qm rfl<|A1 (I4 (cs:=C3 (dress_pair.mk s3.1 s7.1)) rfl rfl) rfl<|qm rfl<|A1 (C5 rfl rfl rfl) rfl<|A1 (C5 rfl rfl rfl) rfl<|W7 (rs:=[(.agg (B2 x11))]) rfl rfl (J8 rfl (J8 rfl (J8 rfl A00))) (A4 rfl (A4 (E4 rfl) (A4 (E4 rfl) B8))) ((N0 (U5 rfl) hx11).frz)<|F8 (A64 (av:=(fun x=>(.agg (C3 x)))) (gv:=(fun x=>(.agg (B2 x)))) (k:=(dress_pair.mk s3.1 s7.1)) (v:=x11) M3 rfl rfl rfl rfl rfl) rfl<|en (ra10 rfl rfl rfl rfl rfl rfl rfl rfl rfl rfl)<|r0<|A1 (G9 rfl rfl) rfl<|qm rfl<|en (ra10 rfl rfl rfl rfl rfl rfl rfl rfl rfl rfl) ?_
      cases hs7
      exact lnT () rfl (su10 rfl rfl rfl rfl rfl rfl rfl rfl rfl rfl)
     ·refine I5 ?_
      obtain rfl:=os hs7
      exact lx rfl px (su5 rfl rfl rfl rfl rfl)
    ·rintro e s' H' - ⟨rfl,rfl,rfl⟩
     refine r0<|A1 (G9 rfl rfl) rfl<|qm rfl<|en (ra5 rfl rfl rfl rfl rfl) ?_
     cases hs3
     exact lnT () rfl (su5 rfl rfl rfl rfl rfl)
   ·refine I5 ?_
    obtain rfl:=os hs3
    exact lx rfl px (su1 rfl)
  ·rintro e s' H' - ⟨rfl,rfl,rfl⟩
   refine s0<|qm rfl<|qm rfl<|qm rfl<|es (ra2 rfl rfl)<|D0<|InlQ.mk trivial ⟨_,_,_,[(.ptr (H.length + 6) 0),.i 0],_,(B3 rfl (B3 rfl B6)),(A8 rfl (A8 rfl B9)),(A3f (Y7 (A20 rfl)) (I0 rfl (I0 rfl Z4))),?_⟩
   refine qm rfl<|A1 (A6 rfl rfl) rfl<|A1 (A6 rfl rfl) rfl<|qm rfl<|qm rfl<|es (ra5 rfl rfl rfl rfl rfl)<|C1<|C6<|s0<|qm rfl<|A1 (K3 (v:=(.b false)) rfl rfl rfl) rfl<|qm rfl<|es (ra6 rfl rfl rfl rfl rfl rfl)<|T2 rfl rfl<|s0<|oB h fun x14 hx14 h=>A1 (D6 rfl) rfl<|A1 (D5 rfl rfl rfl) rfl<|A1 (E6 (f:=A3) rfl) rfl<|A1 (A1w rfl rfl) rfl<|qm rfl<|A1 (I2 (rows:=List.map cI [a1]) rfl rfl (E0 (fun _=>rfl) _)) rfl<|C2 (rs:=[.b x14]) rfl rfl (A4 rfl (A4 rfl (A4 rfl B8))) ((J0 hx14).frz)<|qm rfl<|es (ra3 rfl rfl rfl)<|wi h rfl (fun hc15 h=>?_) fun hc15 h=>?_
   ·refine s0<|A1 (I4 (cs:=A2 (dress_plan.mk ([]:List Int) 0 (Ar4.mk 0 0 0 0))) rfl rfl) rfl<|qm rfl<|F8 (C4 (ds:=(A2 (dress_plan.mk ([]:List Int) 0 (Ar4.mk 0 0 0 0)))) rfl rfl rfl rfl (C0 rfl) rfl) rfl<|qm rfl<|es (ra3 rfl rfl rfl)<|D0<|InlQ.mk trivial ⟨_,_,_,[(.lit (.pointer none)),(.agg (A2 (dress_plan.mk ([]:List Int) 0 (Ar4.mk 0 0 0 0)))),.i 4],_,(B3 rfl (L7 (G1 (ds:=A2 (dress_plan.mk ([]:List Int) 0 (Ar4.mk 0 0 0 0))) rfl rfl rfl rfl) (B3 rfl B6))),(A8 rfl (A8 (W2 rfl) (A8 rfl B9))),(A5p (A5 A9 (A5 (T9 rfl) (A5 A9 B4))) (I0 rfl (I0 rfl (I0 rfl Z4))) (T6 _ _ _)),?_⟩
    refine qm rfl<|A1 (A6 rfl rfl) rfl<|A1 (A6 rfl rfl) rfl<|A1 (A6 rfl rfl) rfl<|A1 D9 rfl<|qm rfl<|F8 (C4 (ds:=(A2 (dress_plan.mk ([]:List Int) 0 (Ar4.mk 0 0 0 0)))) rfl rfl rfl rfl (C0 rfl) rfl) rfl<|qm rfl<|es (ra4 rfl rfl rfl rfl)<|C1<|s0<|qm rfl<|A1 (K3 (v:=(.b true)) rfl rfl rfl) rfl<|es (ra5 rfl rfl rfl rfl rfl)<|N5 rfl rfl<|s0<|qm rfl<|qm rfl<|qm rfl<|es (ra2 rfl rfl)<|D0 ?_
    obtain rfl:=os h
    exact retq trivial (B3 rfl (B3 rfl B6)) (A8 rfl (A8 rfl B9)) (A5 A9 (A5 A9 B4))
   ·refine C9<|sg 7 rfl<|oB h fun x16 hx16 h=>oB h fun x17 hx17 h=>qm rfl<|qm rfl<|C2 (rs:=[.i x16]) rfl rfl (A4 rfl B8) ((J6 (D2 rfl) hx16).frz)<|C2 (rs:=[(.agg (A2 x17.1)),.b x17.2]) rfl rfl (A4 rfl (A4 rfl B8)) (A9s (t:=a0) (ch:=o13) ⟨_,D2 rfl,W5 rfl⟩ (C8k (k:=2) (l:=[]) rfl (A2h (l:=[]) hscv) rfl) hx17)<|qm rfl<|A1 (A6 rfl rfl) rfl<|A1 (A6 rfl rfl) rfl<|A1 D9 rfl<|F8 (C4 (ds:=(A2 x17.1)) rfl rfl rfl rfl (C0 rfl) rfl) rfl<|qm rfl<|es (ra4 rfl rfl rfl rfl)<|C1<|s0<|qm rfl<|A1 (A4m rfl) rfl<|es (ra4 rfl rfl rfl rfl)<|wi h rfl (fun hc18 h=>?_) fun hc18 h=>?_
    ·refine s0<|A1 (I4 (cs:=A2 (dress_plan.mk ([]:List Int) 0 (Ar4.mk 0 0 0 0))) rfl rfl) rfl<|qm rfl<|F8 (C4 (ds:=(A2 (dress_plan.mk ([]:List Int) 0 (Ar4.mk 0 0 0 0)))) rfl rfl rfl rfl (C0 rfl) rfl) rfl<|qm rfl<|es (ra3 rfl rfl rfl)<|D0<|InlQ.mk trivial ⟨_,_,_,[(.lit (.pointer none)),(.agg (A2 (dress_plan.mk ([]:List Int) 0 (Ar4.mk 0 0 0 0)))),.i 9],_,(B3 rfl (L7 (G1 (ds:=A2 (dress_plan.mk ([]:List Int) 0 (Ar4.mk 0 0 0 0))) rfl rfl rfl rfl) (B3 rfl B6))),(A8 rfl (A8 (W2 rfl) (A8 rfl B9))),(A5p (A5 A9 (A5 (T9 rfl) (A5 A9 B4))) (I0 rfl (I0 rfl (I0 rfl Z4))) (T6 _ _ _)),?_⟩
     refine qm rfl<|A1 (A6 rfl rfl) rfl<|A1 (A6 rfl rfl) rfl<|A1 (A6 rfl rfl) rfl<|A1 D9 rfl<|qm rfl<|F8 (C4 (ds:=(A2 (dress_plan.mk ([]:List Int) 0 (Ar4.mk 0 0 0 0)))) rfl rfl rfl rfl (C0 rfl) rfl) rfl<|qm rfl<|es (ra4 rfl rfl rfl rfl)<|C1<|s0<|qm rfl<|A1 (K3 (v:=(.b true)) rfl rfl rfl) rfl<|es (ra5 rfl rfl rfl rfl rfl)<|N5 rfl rfl<|s0<|qm rfl<|qm rfl<|qm rfl<|es (ra2 rfl rfl)<|D0 ?_
     obtain rfl:=os h
     exact retq trivial (B3 rfl (B3 rfl B6)) (A8 rfl (A8 rfl B9)) (A5 A9 (A5 A9 B4))
    ·refine C9<|s0<|qm rfl<|A1 (C5 rfl rfl rfl) rfl<|qm rfl<|F8 (C4 (ds:=(A2 x17.1)) rfl rfl rfl rfl (C0 rfl) rfl) rfl<|qm rfl<|es (ra3 rfl rfl rfl)<|D0<|InlQ.mk trivial ⟨_,_,_,[(.ptr (H.length + 6) 0),(.agg (A2 x17.1)),.i 0],_,(B3 rfl (L7 (G1 (ds:=A2 x17.1) rfl rfl rfl rfl) (B3 rfl B6))),(A8 rfl (A8 (W2 rfl) (A8 rfl B9))),(A3f (Y7 (A20 rfl)) (I0 rfl (I0 rfl (I0 rfl Z4)))),?_⟩
     refine qm rfl<|A1 (A6 rfl rfl) rfl<|A1 (A6 rfl rfl) rfl<|A1 (A6 rfl rfl) rfl<|A1 D9 rfl<|qm rfl<|F8 (C4 (ds:=(A2 x17.1)) rfl rfl rfl rfl (C0 rfl) rfl) rfl<|qm rfl<|es (ra4 rfl rfl rfl rfl)<|C1<|s0<|qm rfl<|A1 (K3 (v:=(.b false)) rfl rfl rfl) rfl<|es (ra5 rfl rfl rfl rfl rfl)<|T2 rfl rfl<|C9<|sg 8 rfl<|oB h fun x19 hx19 h=>oB h fun x20 hx20 h=>oB h fun x21 hx21 h=>qm rfl<|qm rfl<|A92 [8] (B50 [8] rfl A7s rfl rfl) (seen0 rfl) (B3n (rs:=[.i x19]) rfl rfl (J8 rfl A00) (A4 rfl B8) ((J6 (U5 rfl) hx19).frz)) rfl<|qm rfl<|A1 (B6h rfl rfl hx20) rfl<|A1 (K3 (v:=(.i (A9q x19 x20))) rfl rfl rfl) rfl<|A92 [8] (B50 [8] rfl A7s rfl rfl) (seen0 rfl) (B3n (rs:=[(.agg (A2 x21.1)),.b x21.2]) rfl rfl (J8 rfl (J8 rfl A00)) (A4 rfl (A4 rfl B8)) (A9s (t:=a0) (ch:=o13) (A3u.toRo ⟨_,D2 rfl,W5 rfl⟩) (C3e (A2h hscv)) hx21)) rfl<|qm rfl<|A1 (A6 rfl rfl) rfl<|A1 D9 rfl<|F8 (C4 (ds:=(A2 x21.1)) rfl rfl rfl rfl (C0 rfl) rfl) rfl<|A1 (A6 rfl rfl) rfl<|qm rfl<|es (ra3 rfl rfl rfl)<|C1<|s0<|qm rfl<|A1 (A4m rfl) rfl<|es (ra3 rfl rfl rfl)<|wi h rfl (fun hc22 h=>?_) fun hc22 h=>?_
     ·refine s0<|qm rfl<|qm rfl<|es (ra2 rfl rfl)<|D0 ?_
      obtain rfl:=os h
      exact retq trivial (B3 rfl (B3 rfl B6)) (A8 rfl (A8 rfl B9)) (A5 A9 (A5 A9 B4))
     ·refine C9<|s0<|A1 (D6 rfl) rfl<|A1 (D5 rfl rfl rfl) rfl<|A1 (D6 rfl) rfl<|A1 (D5 rfl rfl rfl) rfl<|A1 (A1w rfl rfl) rfl<|qm rfl<|qm rfl<|es (ra2 rfl rfl)<|D0 ?_
      obtain rfl:=os h
      exact retq trivial (B3 rfl (B3 rfl B6)) (A8 rfl (A8 rfl B9)) (A5 A9 (A5 A9 B4))
def U8 (a0:ByteArray) (a1:Int) (a2:(List Int)):Option DrLook :=
 some (DrLook.mk a0 a2 a1)
theorem T8 {c:Sc} {H:A0} {a0:ByteArray} {a1:Int} {a2:(List Int)} {r:DrLook} (h:U8 a0 a1 a2 = some r) :
  F2 tab c H (.fn (.func 80) [] []) [.s a0,.i a1,(.seq 1 (List.map cI a2))] [(.agg (A3 r))]:= by
 unfold U8 at h
 refine cE rfl rfl<|sg 0 rfl<|A1 D9 rfl<|es (ra4 rfl rfl rfl rfl)<|s0<|qm rfl<|qm rfl<|qm rfl<|A1 (I4 (cs:=A3 (DrLook.mk a0 a2 a1)) rfl rfl) rfl<|F8 (C4 (ds:=(A3 (DrLook.mk a0 a2 a1))) rfl rfl rfl rfl (C0 rfl) rfl) rfl<|es (ra1 rfl)<|D0 ?_
 obtain rfl:=os h
 exact retq trivial (L7 (G1 (ds:=A3 (DrLook.mk a0 a2 a1)) rfl rfl rfl rfl) B6) (A8 (W2 rfl) B9) (A5 (T9 rfl) B4)
def A1k (a0:Int):Option DrRoom :=
 (U8 (ByteArray.mk #[97,100,97]) 3 [0,1,0]).bind fun x1 =>
 (U8 (ByteArray.mk #[98,101,110]) 2 [1,1,2]).bind fun x2 =>
 (U8 (ByteArray.mk #[99,121]) 4 [0,0,2]).bind fun x3 =>
 (U8 (ByteArray.mk #[107,105,110,103]) 3 [1,(-1),2]).bind fun x4 =>
 (U8 (ByteArray.mk #[110,117,110]) 2 [0,1,1]).bind fun x5 =>
 (U8 (ByteArray.mk #[106,117,100,103,101]) 2 [1,0,2]).bind fun x6 =>
 some (DrRoom.mk [4,6,10] [0,a0] [x1,x2,x3] [x4,x5,x6])
theorem A2f {c:Sc} {H:A0} {a0:Int} {r:DrRoom} (h:A1k a0 = some r) :
  F2 tab c H (.fn (.func 36) [] []) [.i a0] [(.agg (A7 r))]:= by
 unfold A1k at h
 refine cE rfl rfl<|sg 0 rfl<|A1 D9 rfl<|es (ra2 rfl rfl)<|s0<|oB h fun x1 hx1 h=>oB h fun x2 hx2 h=>oB h fun x3 hx3 h=>oB h fun x4 hx4 h=>oB h fun x5 hx5 h=>oB h fun x6 hx6 h=>A1 (I2 (rows:=List.map cI [4,6,10]) rfl rfl (E0 (fun _=>rfl) _)) rfl<|qm rfl<|A1 (I2 (rows:=List.map cI [0,a0]) rfl rfl (E0 (fun _=>rfl) _)) rfl<|A1 (I2 (rows:=List.map cI [0,1,0]) rfl rfl (E0 (fun _=>rfl) _)) rfl<|C2 (rs:=[(.agg (A3 x1))]) rfl rfl (A4 rfl (A4 rfl (A4 rfl B8))) ((T8 hx1).frz)<|A1 (I2 (rows:=List.map cI [1,1,2]) rfl rfl (E0 (fun _=>rfl) _)) rfl<|C2 (rs:=[(.agg (A3 x2))]) rfl rfl (A4 rfl (A4 rfl (A4 rfl B8))) ((T8 hx2).frz)<|A1 (I2 (rows:=List.map cI [0,0,2]) rfl rfl (E0 (fun _=>rfl) _)) rfl<|C2 (rs:=[(.agg (A3 x3))]) rfl rfl (A4 rfl (A4 rfl (A4 rfl B8))) ((T8 hx3).frz)<|A1 (I2 (rows:=List.map A3 [x1,x2,x3]) rfl rfl (E0 (fun _=>rfl) _)) rfl<|A1 (I2 (rows:=List.map cI [1,(-1),2]) rfl rfl (E0 (fun _=>rfl) _)) rfl<|C2 (rs:=[(.agg (A3 x4))]) rfl rfl (A4 rfl (A4 rfl (A4 rfl B8))) ((T8 hx4).frz)<|A1 (I2 (rows:=List.map cI [0,1,1]) rfl rfl (E0 (fun _=>rfl) _)) rfl<|C2 (rs:=[(.agg (A3 x5))]) rfl rfl (A4 rfl (A4 rfl (A4 rfl B8))) ((T8 hx5).frz)<|A1 (I2 (rows:=List.map cI [1,0,2]) rfl rfl (E0 (fun _=>rfl) _)) rfl<|C2 (rs:=[(.agg (A3 x6))]) rfl rfl (A4 rfl (A4 rfl (A4 rfl B8))) ((T8 hx6).frz)<|A1 (I2 (rows:=List.map A3 [x4,x5,x6]) rfl rfl (E0 (fun _=>rfl) _)) rfl<|A1 (I4 (cs:=A7 (DrRoom.mk [4,6,10] [0,a0] [x1,x2,x3] [x4,x5,x6])) rfl rfl) rfl<|F8 (C4 (ds:=(A7 (DrRoom.mk [4,6,10] [0,a0] [x1,x2,x3] [x4,x5,x6]))) rfl rfl rfl rfl (C0 rfl) rfl) rfl<|es (ra1 rfl)<|D0 ?_
 obtain rfl:=os h
 exact retq trivial (L7 (G1 (ds:=A7 (DrRoom.mk [4,6,10] [0,a0] [x1,x2,x3] [x4,x5,x6])) rfl rfl rfl rfl) B6) (A8 (W2 rfl) B9) (A5 (T9 rfl) B4)
def A5h (a0:(List Int)) (a1:(List Int)) (s1:(Bool × Int)):Option ((Bool × Int) ⊕ Bool) :=
 if (s1.1 && (decide (s1.2 < (List.length a0:Int)))) = true then
  (idx a0 s1.2).bind fun x5 =>
  (idx a1 s1.2).bind fun x6 =>
  some (.inl ((x5 == x6),(w64 (s1.2 + 1))))
 else
  some (.inr s1.1)
def P0 (a0:(List Int)) (a1:(List Int)):Option Bool :=
 (loop (A5h a0 a1) (((List.length a0:Int) == (List.length a1:Int)),0)).bind fun (o7:Bool) =>
 some o7
theorem M7 {c:Sc} {H:A0} {a0:(List Int)} {a1:(List Int)} {r:Bool} (h:P0 a0 a1 = some r) :
  F2 tab c H (.fn (.func 20) [] []) [(.seq 1 (List.map cI a0)),(.seq 1 (List.map cI a1))] [.b r]:= by
 unfold P0 at h
 refine cE rfl rfl<|s0<|qm rfl<|es (ra2 rfl rfl)<|s0<|qm rfl<|A1 (E6 (f:=cI) rfl) rfl<|qm rfl<|A1 (E6 (f:=cI) rfl) rfl<|A1 (J3 rfl rfl) rfl<|qm rfl<|es (ra3 rfl rfl rfl)<|C1<|s0<|qm rfl<|es (ra4 rfl rfl rfl rfl)<|C6<|oB h fun o7 ho7 h=>wl (fun s1=>[(0,(.seq 1 (List.map cI a0))),(1,(.seq 1 (List.map cI a1))),(5,.b s1.1),(6,.i s1.2)]) (fun (q2:Unit) s1=>[]) 0 (fun r e s' H'=>PX 0 [(5,.b r)] (H++[]) e s' H') () ho7 rfl rfl (fun _ _=>rfl) (fun _=>rfl) rfl (fun s1=>(bdc G3 (bdc G3 (bdc A9 (bdc A9 bdn))))) (fun q2 s1 ys1 hs1=>?_) ?_
 ·unfold A5h at hs1
  refine C1<|s0<|qm rfl<|qm rfl<|gp 5 18 (.b (s1.1 && (decide (s1.2 < (List.length a0:Int))))) 13 rfl rfl (fun hg3=>?_) (fun hg3=>?_) ?_
  ·exact gT rfl hg3<|qm rfl<|gT rfl hg3<|qm rfl<|gT rfl hg3<|A1 (E6 (f:=cI) rfl) rfl<|gT rfl hg3<|A1 (L8 rfl rfl) rfl<|A1 (D8 rfl hg3 rfl) rfl<|ge 5 (by rw [hg3]; rfl) rfl rfl
  ·exact nT rfl hg3 rfl<|nT rfl hg3 rfl<|nT rfl hg3 rfl<|nT rfl hg3 rfl<|A1 (D7 rfl hg3 rfl) rfl<|ge 5 (by rw [hg3]; rfl) rfl rfl
  refine es (ra5 rfl rfl rfl rfl rfl)<|wi hs1 rfl (fun hc4 hs1=>?_) fun hc4 hs1=>?_
  ·refine C9<|C1<|C6<|r0<|oB hs1 fun x5 hx5 hs1=>oB hs1 fun x6 hx6 hs1=>qm rfl<|qm rfl<|A1 (L4 (f:=cI) rfl rfl hx5) rfl<|A1 (S6 rfl rfl) rfl<|qm rfl<|qm rfl<|A1 (L4 (f:=cI) rfl rfl hx6) rfl<|A1 (S6 rfl rfl) rfl<|A1 (J3 rfl rfl) rfl<|qm rfl<|en (ra4 rfl rfl rfl rfl)<|r0<|qm rfl<|A1 (G9 rfl rfl) rfl<|qm rfl<|en (ra4 rfl rfl rfl rfl) ?_
   cases hs1
   exact lnT () rfl (su4 rfl rfl rfl rfl)
  ·refine I5 ?_
   obtain rfl:=os hs1
   exact lx rfl px (su1 rfl)
 ·rintro e s' H' - ⟨rfl,rfl,rfl⟩
  refine s0<|qm rfl<|qm rfl<|es (ra1 rfl)<|D0 ?_
  obtain rfl:=os h
  exact retq trivial (B3 rfl B6) (A8 rfl B9) (A5 A9 B4)
end Ds
end
section
set_option maxRecDepth 100000
namespace Am
open Go
theorem B5j {T:Tab} {c:Sc} {H:A0} {i:Nat} {af:AFunc} {first cap args aq rs:List AV} {H':A0} (haf:T i = some af) (has:first++args++cap = aq) (hn:(Nat.beq aq.length af.nargs && Nat.blt af.nargs 1000) = true)
  (h:WP T af.body (F9 0 aq) H ⟨H.length,c.cur :: c.outer⟩ (fun e s H2=>(match e with | .exit _=>False | _=>True)∧∃ rs0 H1,results s H2 af.results = some rs0∧L9 H.length H2 rs0 = some (rs,H1)∧trunc H.length rs H1 = H')):F1 T c H (.fn (.func i) first cap) args rs H':= by
 obtain ⟨e,S',s',H2,h1,h2,h3,rs0,H1,h4,h5,h6⟩:=h _ (Sub.refl _)
 exact F1.fn (af:=af) (bd:=af.body) (aq:=aq) (rs0:=rs0) (rs1:=rs) (H1:=H1) (e:=e) (st':=⟨S',H2,⟨H.length,c.cur :: c.outer⟩⟩) rfl haf rfl has.symm hn rfl h1 (by cases e <;> first | rfl | exact h3.elim) (L1 h2 h4) h5 rfl h6.symm
end Am
namespace Ds
open Go Am Go.Proofs.Ytdkflofgolehkaa.Cd
def B9p (N:Nat) (t:DrRoom) (ch:Chg):List AO:=[.cells (A7 t),.map (A44 ch),.cells (A03 t (N + 1))]
theorem B0z {c:Sc} {H:A0} {a0:DrRoom} {x1:Int × Int × Int} (hx1:L2 a0 = some x1) (hc2:(x1.2.2 != 0) = true) :
  F1 tab c H (.fn (.func 52) [] []) [(.agg (A7 a0))] [.lit (.pointer none),.i x1.2.2] H:= by
 refine B5j (aq:=[(.agg (A7 a0))]) rfl rfl rfl (A0v ?_)
 refine sg 0 rfl<|A1 (H8 (cs:=A7 a0) rfl rfl rfl) rfl<|qm rfl<|qm rfl<|es (ra1 rfl)<|C1<|s0<|A1 (C5 rfl rfl rfl) rfl<|C2 (rs:=[.i x1.1,.i x1.2.1,.i x1.2.2]) rfl rfl (A4 (E4 rfl) B8) ((R2 hx1).frz)<|qm rfl<|A1 (A6 rfl rfl) rfl<|A1 (A6 rfl rfl) rfl<|A1 (A6 rfl rfl) rfl<|qm rfl<|qm rfl<|qm rfl<|es (ra2 rfl rfl)<|s0<|qm rfl<|A1 (R1 rfl rfl) rfl<|es (ra3 rfl rfl rfl)<|N5 rfl hc2<|s0<|qm rfl<|qm rfl<|qm rfl<|es (ra2 rfl rfl)<|D0 ?_
 exact ⟨trivial,_,_,B3 rfl (B3 rfl B6),A8 rfl (A8 rfl B9),by unfold trunc; rw [show bdL H.length [AV.lit (.pointer none),.i x1.2.2] = true from rfl,if_pos rfl]; exact List.take_left⟩
theorem B00 {c:Sc} {H:A0} {a0:DrRoom} {x1:Int × Int × Int} {o13:Chg} (hx1:L2 a0 = some x1) (hc2:(x1.2.2 != 0) = false) (ho13:loop (O3 a0) (0,[]) = some o13) :
  F1 tab c H (.fn (.func 52) [] []) [(.agg (A7 a0))] [.ptr (H.length + 2) 0,.i 0] (H++B9p H.length a0 o13):= by
 refine B5j (aq:=[(.agg (A7 a0))]) rfl rfl rfl (A0v ?_)
 refine sg 0 rfl<|A1 (H8 (cs:=A7 a0) rfl rfl rfl) rfl<|qm rfl<|qm rfl<|es (ra1 rfl)<|C1<|s0<|A1 (C5 rfl rfl rfl) rfl<|C2 (rs:=[.i x1.1,.i x1.2.1,.i x1.2.2]) rfl rfl (A4 (E4 rfl) B8) ((R2 hx1).frz)<|qm rfl<|A1 (A6 rfl rfl) rfl<|A1 (A6 rfl rfl) rfl<|A1 (A6 rfl rfl) rfl<|qm rfl<|qm rfl<|qm rfl<|es (ra2 rfl rfl)<|s0<|qm rfl<|A1 (R1 rfl rfl) rfl<|es (ra3 rfl rfl rfl)<|T2 rfl hc2 ?_
 ·refine C9<|sg 1 rfl<|A1 (C5 rfl rfl rfl) rfl<|A1 A66 rfl<|A1 (I4 (cs:=[(.seq 1 (List.map cI a0.Costs)),(.seq 1 (List.map cI a0.Ounces)),(.seq 3 (List.map A3 a0.Figures)),(.seq 3 (List.map A3 a0.Persons)),(.mp (H.length + 1))]) rfl rfl) rfl<|A1 (H8 (cs:=[(.seq 1 (List.map cI a0.Costs)),(.seq 1 (List.map cI a0.Ounces)),(.seq 3 (List.map A3 a0.Figures)),(.seq 3 (List.map A3 a0.Persons)),(.mp (H.length + 1))]) rfl rfl rfl) rfl<|qm rfl<|es (ra2 rfl rfl)<|C1<|s0<|A1 (D6 rfl) rfl<|A1 (D5 rfl rfl rfl) rfl<|A1 (E6 (f:=A3) rfl) rfl<|qm rfl<|es (ra5 rfl rfl rfl rfl rfl)<|C6<|wl (fun s3=>[(1,(.ptr (H.length + 0) 0)),(7,(.ptr (H.length + 2) 0)),(26,(.seq 3 (List.map A3 a0.Figures))),(27,(.i (List.length a0.Figures:Int))),(28,.i s3.1)]) (fun (q4:Unit) s3=>[(.cells (A7 a0)),(.map (List.map (kE (fun x=>(.agg (C3 x))) (fun x=>(.agg (B2 x)))) s3.2)),(.cells [(.seq 1 (List.map cI a0.Costs)),(.seq 1 (List.map cI a0.Ounces)),(.seq 3 (List.map A3 a0.Figures)),(.seq 3 (List.map A3 a0.Persons)),(.mp (H.length + 1))])]) 3 (fun r e s' H'=>PX 0 [(7,(.ptr (H.length + 2) 0))] (H++[(.cells (A7 a0)),(.map (List.map (kE (fun x=>(.agg (C3 x))) (fun x=>(.agg (B2 x)))) r)),(.cells [(.seq 1 (List.map cI a0.Costs)),(.seq 1 (List.map cI a0.Ounces)),(.seq 3 (List.map A3 a0.Figures)),(.seq 3 (List.map A3 a0.Persons)),(.mp (H.length + 1))])]) e s' H') () ho13 rfl rfl (fun _ _=>rfl) (fun _=>rfl) rfl (fun s3=>(bdc (F3 rfl) (bdc (F3 rfl) (bdc G3 (bdc A9 (bdc A9 bdn)))))) (fun q4 s3 ys3 hs3=>?_) ?_
  ·unfold O3 at hs3
   refine s0<|A1 (L8 rfl rfl) rfl<|es (ra6 rfl rfl rfl rfl rfl rfl)<|C1<|wi hs3 rfl (fun hc5 hs3=>?_) fun hc5 hs3=>?_
   ·refine C9<|C1<|C6<|sg 3 rfl<|oB hs3 fun x6 hx6 hs3=>qm rfl<|A1 (L4 (f:=A3) rfl rfl hx6) rfl<|A1 (Q0 rfl rfl) rfl<|A1 D9 rfl<|qm rfl<|F8 (C4 (ds:=(A3 x6)) rfl rfl rfl rfl (C0 rfl) rfl) rfl<|es (ra7 rfl rfl rfl rfl rfl rfl rfl)<|s0<|A1 (D6 rfl) rfl<|A1 (D5 rfl rfl rfl) rfl<|A1 (E6 (f:=A3) rfl) rfl<|qm rfl<|es (ra10 rfl rfl rfl rfl rfl rfl rfl rfl rfl rfl)<|C6<|oB hs3 fun o12 ho12 hs3=>wl (fun s7=>[(1,(.ptr (H.length + 0) 0)),(7,(.ptr (H.length + 2) 0)),(8,.i s3.1),(9,(.ptr (H.length + 3) 0)),(26,(.seq 3 (List.map A3 a0.Figures))),(27,(.i (List.length a0.Figures:Int))),(28,.i s3.1),(34,(.seq 3 (List.map A3 a0.Persons))),(35,(.i (List.length a0.Persons:Int))),(36,.i s7.1)]) (fun (q8:Unit) s7=>[(.cells (A7 a0)),(.map (List.map (kE (fun x=>(.agg (C3 x))) (fun x=>(.agg (B2 x)))) s7.2)),(.cells [(.seq 1 (List.map cI a0.Costs)),(.seq 1 (List.map cI a0.Ounces)),(.seq 3 (List.map A3 a0.Figures)),(.seq 3 (List.map A3 a0.Persons)),(.mp (H.length + 1))]),(.cells (A3 x6))]) 4 (fun r e s' H'=>PX 2 [(1,(.ptr (H.length + 0) 0)),(7,(.ptr (H.length + 2) 0)),(26,(.seq 3 (List.map A3 a0.Figures))),(27,(.i (List.length a0.Figures:Int))),(28,.i s3.1)] (H++[(.cells (A7 a0)),(.map (List.map (kE (fun x=>(.agg (C3 x))) (fun x=>(.agg (B2 x)))) r)),(.cells [(.seq 1 (List.map cI a0.Costs)),(.seq 1 (List.map cI a0.Ounces)),(.seq 3 (List.map A3 a0.Figures)),(.seq 3 (List.map A3 a0.Persons)),(.mp (H.length + 1))]),(.cells (A3 x6))]) e s' H') () ho12 rfl rfl (fun _ _=>rfl) (fun _=>rfl) rfl (fun s7=>(bdc (F3 rfl) (bdc (F3 rfl) (bdc A9 (bdc (F3 rfl) (bdc G3 (bdc A9 (bdc A9 (bdc G3 (bdc A9 (bdc A9 bdn))))))))))) (fun q8 s7 ys7 hs7=>?_) ?_
    ·unfold A17 at hs7
     refine s0<|A1 (L8 rfl rfl) rfl<|es (ra11 rfl rfl rfl rfl rfl rfl rfl rfl rfl rfl rfl)<|C1<|wi hs7 rfl (fun hc9 hs7=>?_) fun hc9 hs7=>?_
     ·refine C9<|C1<|C6<|sg 4 rfl<|oB hs7 fun x10 hx10 hs7=>qm rfl<|A1 (L4 (f:=A3) rfl rfl hx10) rfl<|A1 (Q0 rfl rfl) rfl<|A1 D9 rfl<|qm rfl<|F8 (C4 (ds:=(A3 x10)) rfl rfl rfl rfl (C0 rfl) rfl) rfl<|es (ra12 rfl rfl rfl rfl rfl rfl rfl rfl rfl rfl rfl rfl)<|r0<|oB hs7 fun x11 hx11 hs7=>qm rfl<|A1 (V4 rfl rfl) rfl<|A1 (D6 rfl) rfl<|A1 (D5 (x:=(.mp (H.length + 1))) rfl rfl rfl) rfl<|qm rfl<|qm rfl<|A1 (I4 (cs:=C3 (dress_pair.mk s3.1 s7.1)) rfl rfl) rfl<|qm rfl<|A1 (C5 rfl rfl rfl) rfl<|A1 (C5 rfl rfl rfl) rfl<|W7 (rs:=[(.agg (B2 x11))]) rfl rfl (J8 rfl (J8 rfl (J8 rfl A00))) (A4 rfl (A4 (E4 rfl) (A4 (E4 rfl) B8))) ((N0 (U5 rfl) hx11).frz)<|F8 (A64 (av:=(fun x=>(.agg (C3 x)))) (gv:=(fun x=>(.agg (B2 x)))) (k:=(dress_pair.mk s3.1 s7.1)) (v:=x11) M3 rfl rfl rfl rfl rfl) rfl<|en (ra10 rfl rfl rfl rfl rfl rfl rfl rfl rfl rfl)<|r0<|A1 (G9 rfl rfl) rfl<|qm rfl<|en (ra10 rfl rfl rfl rfl rfl rfl rfl rfl rfl rfl) ?_
      cases hs7
      exact lnT () rfl (su10 rfl rfl rfl rfl rfl rfl rfl rfl rfl rfl)
     ·refine I5 ?_
      obtain rfl:=os hs7
      exact lx rfl px (su5 rfl rfl rfl rfl rfl)
    ·rintro e s' H' - ⟨rfl,rfl,rfl⟩
     refine r0<|A1 (G9 rfl rfl) rfl<|qm rfl<|en (ra5 rfl rfl rfl rfl rfl) ?_
     cases hs3
     exact lnT () rfl (su5 rfl rfl rfl rfl rfl)
   ·refine I5 ?_
    obtain rfl:=os hs3
    exact lx rfl px (su1 rfl)
  ·rintro e s' H' - ⟨rfl,rfl,rfl⟩
   refine s0<|qm rfl<|qm rfl<|qm rfl<|es (ra2 rfl rfl)<|D0 ?_
   refine ⟨trivial,_,_,B3 rfl (B3 rfl B6),A8 rfl (A8 rfl B9),?_⟩
   have hb:bdL H.length [AV.ptr (H.length + 2) 0,.i 0] = false:= by
    have:Nat.blt (H.length + 2) H.length = false:= by
     cases hb:Nat.blt (H.length + 2) H.length with
     | false=>rfl
     | true=>have:=Nat.le_of_ble_eq_true hb; omega
    simp only [bdL,AV.bd,this,Bool.false_and]
   unfold trunc
   rw [hb]
   rfl
end Ds
end
section
namespace Am
open Go
section
variable {T:Tab} {s:B1} {H0:A0} {l:List AO} {c:Sc} {Q:Ex→B1→A0→Prop}
def C68 {γ σ ρ:Type} (I:γ→σ→Prop) (st:γ→σ→B1) (hp:γ→σ→A0) (P:ρ→Ex→B1→A0→Prop):σ ⊕ ρ→Ex→B1→A0→Prop
 | .inl x,e,s',H'=>e = .normal∧∃ g',I g' x∧Sub (st g' x) s'∧H' = hp g' x
 | .inr r,e,s',H'=>e.out = true∧∃ s0,Sub s0 s'∧P r e s0 H'
theorem B7k {γ σ ρ:Type} {live:List Nat} {bd:ACode} {body:σ→Option (σ ⊕ ρ)} (I:γ→σ→Prop) (st:γ→σ→B1) (hp:γ→σ→A0) (P:ρ→Ex→B1→A0→Prop)
  (hlive:∀g x,(st g x).map (·.1) = live) (hnd:live.Nodup)
  (hbody:∀g x o,I g x→body x = some o→WP T bd (st g x) (hp g x) c (C68 I st hp P o))
  {x0:σ} {r:ρ} (h:loop body x0 = some r) (g0:γ) (hI:I g0 x0):WP T (.loop false live bd) (st g0 x0) (hp g0 x0) c (fun e s' H'=>e.out = true∧P r e s' H'):= by
 have key:∀n g0 x0,I g0 x0→B01 body n x0 = some r→WP T (.loop false live bd) (st g0 x0) (hp g0 x0) c (fun e s' H'=>e.out = true∧P r e s' H'):= by
  intro n
  induction n with
  | zero=>intro g0 x0 _ h; cases h
  | succ n ih =>
   intro g0 x0 hI h S hS
   rw [A3h] at h
   have hr:restrict S live = st g0 x0:=K9 (hlive g0 x0) hnd hS
   have hin:A0y false live ⟨S,hp g0 x0,c⟩ = ⟨st g0 x0,hp g0 x0,c⟩:= by
    unfold A0y; simp [hr]
   split at h
   ·next x' hb =>
    obtain ⟨e,S1,s1,H1,h1,h2,rfl,g',hI',h4,h5⟩:=hbody g0 x0 _ hI hb _ (Sub.refl _)
    have hr1:restrict S1 live = st g' x':=K9 (hlive g' x') hnd (h4.trans h2)
    obtain ⟨e2,S2,s2,H2,g1,g2,g3⟩:=ih g' x' hI' h _ (Sub.refl _)
    refine ⟨e2,S2,s2,H2,F5.loop (st1:=⟨S1,H1,c⟩) rfl hin.symm h1 ?_ g1,g2,g3⟩
    unfold A2q
    simp only [Bool.false_eq_true,if_false,hr1,h5]
   ·next r' hb =>
    simp only [Option.some.injEq] at h
    subst h
    obtain ⟨e,S1,s1,H1,h1,h2,h3,s2,h4,h5⟩:=hbody g0 x0 _ hI hb _ (Sub.refl _)
    exact ⟨e,S1,s2,H1,F5.loopOut (st1:=⟨S1,H1,c⟩) rfl hin.symm h3 h1 rfl,h4.trans h2,h3,h5⟩
   ·cases h
 exact key _ _ _ hI h
end
end Am
end
section
set_option maxRecDepth 100000
set_option maxHeartbeats 0
namespace Ds
open Go Am Go.Proofs.Ytdkflofgolehkaa.Cd
def R7 (a0:(List Int)) (a1:Int) (s1:Int):Option (Int ⊕ (Int ⊕ Unit)) :=
 if (decide (s1 < (List.length a0:Int))) = true then
  (idx a0 s1).bind fun x4 =>
  if (a1 == x4) = true then
  some (.inr (.inl s1))
  else
  some (.inl (w64 (s1 + 1)))
 else
  some (.inr (.inr ()))
def N1 (a0:(List Int)) (a1:Int):Option Int :=
 (loop (R7 a0 a1) 0).bind fun (o6:(Int ⊕ Unit)) =>
 match o6 with
 | (.inl vo6_0) =>
  some vo6_0
 | (.inr vo6_1) =>
  some (-1)
theorem A2s {c:Sc} {H:A0} {a0:(List Int)} {a1:Int} {r:Int} (h:N1 a0 a1 = some r) :
  F2 tab c H (.fn (.func 95) [] []) [(.seq 1 (List.map cI a0)),.i a1] [.i r]:= by
 unfold N1 at h
 refine cE rfl rfl<|s0<|qm rfl<|es (ra2 rfl rfl)<|C1<|s0<|qm rfl<|A1 (E6 (f:=cI) rfl) rfl<|qm rfl<|es (ra4 rfl rfl rfl rfl)<|C6<|oB h fun o6 ho6 h=>wl (fun s1=>[(0,(.seq 1 (List.map cI a0))),(1,.i a1),(7,(.i (List.length a0:Int))),(8,.i s1)]) (fun (q2:Unit) s1=>[]) 0 (fun r e s' H'=>(match r with | (.inl v)=>e = .ret∧RetQ H [.tmp 4] [.i v] e s' H' | (.inr v)=>PX 0 [] (H++[]) e s' H':Prop)) () ho6 rfl rfl (fun _ _=>rfl) (fun _=>rfl) rfl (fun s1=>(bdc G3 (bdc A9 (bdc A9 (bdc A9 bdn))))) (fun q2 s1 ys1 hs1=>?_) ?_
 ·unfold R7 at hs1
  refine s0<|A1 (L8 rfl rfl) rfl<|es (ra5 rfl rfl rfl rfl rfl)<|C1<|wi hs1 rfl (fun hc3 hs1=>?_) fun hc3 hs1=>?_
  ·refine C9<|C1<|C6<|s0<|qm rfl<|qm rfl<|es (ra5 rfl rfl rfl rfl rfl)<|s0<|oB hs1 fun x4 hx4 hs1=>qm rfl<|qm rfl<|qm rfl<|A1 (L4 (f:=cI) rfl rfl hx4) rfl<|A1 (S6 rfl rfl) rfl<|A1 (J3 rfl rfl) rfl<|es (ra6 rfl rfl rfl rfl rfl rfl)<|wi hs1 rfl (fun hc5 hs1=>?_) fun hc5 hs1=>?_
   ·refine s0<|qm rfl<|qm rfl<|es (ra1 rfl)<|D0 ?_
    obtain rfl:=os hs1
    exact lx rfl (And.intro rfl (retq trivial (B3 rfl B6) (A8 rfl B9) (A5 A9 B4))) (Sub.refl _)
   ·refine C9<|r0<|A1 (G9 rfl rfl) rfl<|qm rfl<|en (ra4 rfl rfl rfl rfl) ?_
    cases hs1
    exact lnT () rfl (su4 rfl rfl rfl rfl)
  ·refine I5 ?_
   obtain rfl:=os hs1
   exact lx rfl px (.nil _)
 ·rcases o6 with vo6_0 | vo6_1
  ·rintro e s' H' - ⟨rfl,hret⟩
   cases h
   exact hret
  ·rintro e s' H' - ⟨rfl,rfl,rfl⟩
   refine s0<|qm rfl<|es (ra1 rfl)<|D0 ?_
   obtain rfl:=os h
   exact retq trivial (B3 rfl B6) (A8 rfl B9) (A5 A9 B4)
def I6 (a0:(List Int)) (a1:Int):Option Bool :=
 (N1 a0 a1).bind fun x1 =>
 some (decide (x1 ≥ 0))
theorem A1n {c:Sc} {H:A0} {a0:(List Int)} {a1:Int} {r:Bool} (h:I6 a0 a1 = some r) :
  F2 tab c H (.fn (.func 66) [] []) [(.seq 1 (List.map cI a0)),.i a1] [.b r]:= by
 unfold I6 at h
 refine cE rfl rfl<|s0<|qm rfl<|es (ra2 rfl rfl)<|s0<|oB h fun x1 hx1 h=>qm rfl<|qm rfl<|R8 (A1o (rs:=[.i x1]) rfl rfl ((A2s hx1).frz)) rfl<|A1 (A6d rfl rfl) rfl<|qm rfl<|es (ra1 rfl)<|D0 ?_
 obtain rfl:=os h
 exact retq trivial (B3 rfl B6) (A8 rfl B9) (A5 A9 B4)
end Ds
end
section
set_option maxRecDepth 100000
namespace Ds
open Go Am Go.Proofs.Ytdkflofgolehkaa.Cd
def plan0:dress_plan:=⟨[],0,⟨0,0,0,0⟩⟩
def B1o (t:DrRoom) (ch:Chg) (figs:List Int) (s:Int × dress_plan):Option ((Int × dress_plan) ⊕ (Unit ⊕ dress_plan)) :=
 if (decide (s.1 < (List.length figs:Int))) = true then
  (idx figs s.1).bind fun f=>(slc figs 0 s.1).bind fun pre=>(I6 pre f).bind fun k =>
  if k = true then some (.inr (.inl ()))
  else (W9 s.2 f (A16 ch f s.1)).bind fun p=>some (.inl (w64 (s.1 + 1),p))
 else some (.inr (.inr s.2))
def A7c (t:DrRoom) (figs:List Int):Option (dress_plan × Int) :=
 (L2 t).bind fun x1 =>
 if (x1.2.2 != 0) = true then some (plan0,x1.2.2)
 else (loop (O3 t) (0,[])).bind fun ch =>
  if ((List.length figs:Int) != (List.length t.Persons:Int)) = true then some (plan0,3)
  else (K1 0 (w64 ((List.length t.Figures:Int) - 1)) figs).bind fun k =>
   if k = true then some (plan0,4)
   else (loop (B1o t ch figs) (0,begin0 t)).bind fun o =>
    match o with
    | .inl _=>some (plan0,5)
    | .inr p=>some (p,0)
theorem B17 {N:Nat} {rs:List AV} {H:A0} (h:bdL N rs = false):trunc N rs H = H:= by unfold trunc; rw [h]; rfl
theorem B81 {N j o:Nat} {rs:List AV}:bdL N (.ptr (N + j) o :: rs) = false:= by
 have:Nat.blt (N + j) N = false:= by
  cases hb:Nat.blt (N + j) N with
  | false=>rfl
  | true=>have:=Nat.le_of_ble_eq_true hb; omega
 simp only [bdL,AV.bd,this,Bool.false_and]
theorem B3z {H:A0} {l:List AO} {rs:List AV} (h:bdL H.length rs = true):trunc H.length rs (H++l) = H++[]:= by
 unfold trunc; rw [h,if_pos rfl,List.append_nil]; exact List.take_left
def PlQ (H:A0) (r:dress_plan × Int) (e:Ex) (s:B1) (H1:A0):Prop :=
 (match e with | .exit _=>False | _=>True)∧∃ v0 f L,fzA v0 = v0∧fz1 f = f∧results s H1 [.tmp 4,.cell 5 (some 6),.tmp 6] = some [v0,.agg (cP f r.1),.i r.2]∧trunc H.length [v0,.agg (cP f r.1),.i r.2] H1 = H++L
theorem A96 {H:A0} {l:List AO} {s:B1} {e:Int} (h4:sget s 4 = some (.lit (.pointer none))) (h5:sget s 5 = some (.ptr (H.length + 1) 0)) (h6:sget s 6 = some (.i e)) (hl:l[1]? = some (.cells (A2 plan0))):PlQ H (plan0,e) .ret s (H++l) :=
 ⟨trivial,_,.seq 1 [],[],rfl,rfl,B3 h4 (L7 (G1 (ds:=A2 plan0) h5 hl rfl rfl) (B3 h6 B6)),B3z rfl⟩
theorem C1u {T:Tab} {c:Sc} {H:A0} {i:Nat} {af:AFunc} {first cap args aq:List AV} {r:dress_plan × Int} (haf:T i = some af) (has:first++args++cap = aq) (hn:Nat.beq (aq.length + 1000) af.nargs = true) (hres:af.results = [.tmp 4,.cell 5 (some 6),.tmp 6])
  (h:WP T af.body (F9 0 aq) H ⟨H.length,c.cur :: c.outer⟩ (PlQ H r)):∃v0 f L,fzA v0 = v0∧fz1 f = f∧F1 T c H (.fn (.func i) first cap) args [v0,.agg (cP f r.1),.i r.2] (H++L):= by
 obtain ⟨e,S',s',H2,⟨n,h1⟩,h2,h3,v0,f,L,hv,hf',h4,h5⟩:=h _ (Sub.refl _)
 have hf:(Nat.beq aq.length af.nargs && Nat.blt af.nargs 1000) = false:= by
  have:=Nat.eq_of_beq_eq_true hn
  cases hb:Nat.blt af.nargs 1000 with
  | false=>rw [Bool.and_false]
  | true=>have:=Nat.le_of_ble_eq_true hb; omega
 refine ⟨v0,f,L,hv,hf',n + 1,?_⟩
 rw [N3]
 unfold H6
 simp only [haf,has,hf,hn,Bool.false_eq_true,if_false,if_true,h1]
 have hr:=L1 h2 h4
 cases e with
 | exit i=>exact h3.elim
 | normal=>simp only [hres,hr,h5]
 | ret=>simp only [hres,hr,h5]
theorem B1p {c:Sc} {H:A0} {t:DrRoom} {figs:List Int} {r:dress_plan × Int} (h:A7c t figs = some r) :
  ∃ v0 f L,fzA v0 = v0∧fz1 f = f∧F1 tab c H (.fn (.func 57) [] []) [.agg (A7 t),.seq 1 (figs.map cI)] [v0,.agg (cP f r.1),.i r.2] (H++L):= by
 unfold A7c at h
 refine oB h fun x1 hx1 h=>?_
 refine C1u (aq:=[.agg (A7 t),.seq 1 (figs.map cI)]) rfl rfl rfl rfl (A0v ?_)
 refine sg 0 rfl<|A1 (H8 (cs:=A7 t) rfl rfl rfl) rfl<|qm rfl<|A1 D9 rfl<|qm rfl<|es (ra3 rfl rfl rfl) ?_
 by_cases hc1:(x1.2.2 != 0) = true
 ·rw [if_pos hc1] at h
  obtain rfl:=os h
  refine s0<|A1 (C5 rfl rfl rfl) rfl<|R8 (R4 rfl rfl (A4 (E4 rfl) B8) (B0z hx1 hc1) rfl) rfl<|qm rfl<|A1 (A6 rfl rfl) rfl<|A1 (A6 rfl rfl) rfl<|qm rfl<|qm rfl<|es (ra5 rfl rfl rfl rfl rfl)<|C1<|C6<|s0<|qm rfl<|A1 (R1 rfl rfl) rfl<|qm rfl<|es (ra6 rfl rfl rfl rfl rfl rfl)<|N5 rfl hc1<|s0<|A1 (I4 (cs:=A2 plan0) rfl rfl) rfl<|qm rfl<|qm rfl<|F8 (C4 (ds:=A2 plan0) rfl rfl rfl rfl (C0 rfl) rfl) rfl<|qm rfl<|es (ra3 rfl rfl rfl)<|D0<|A96 rfl rfl rfl rfl
 ·rw [if_neg hc1] at h
  have hc1:(x1.2.2 != 0) = false:=Bool.eq_false_iff.2 hc1
  refine oB h fun ch hch h=>?_
  have hlook:F1 tab ⟨H.length,c.cur :: c.outer⟩ (H++[.cells (A7 t),.cells (A2 plan0)]) (.fn (.func 52) [] []) [(.agg (A7 t))] [.ptr (H.length + 4) 0,.i 0] (H++[.cells (A7 t),.cells (A2 plan0),.cells (A7 t),.map (A44 ch),.cells (A03 t (H.length + 3))]):= by
   have:=B00 (c:=⟨H.length,c.cur :: c.outer⟩) (H:=H++[.cells (A7 t),.cells (A2 plan0)]) hx1 hc1 hch
   unfold B9p at this
   rw [List.length_append,List.append_assoc] at this
   exact this
  refine s0<|A1 (C5 rfl rfl rfl) rfl<|R8 (R4 rfl rfl (A4 (E4 rfl) B8) hlook rfl) rfl<|qm rfl<|A1 (A6 rfl rfl) rfl<|A1 (A6 rfl rfl) rfl<|qm rfl<|qm rfl<|es (ra5 rfl rfl rfl rfl rfl)<|C1<|C6<|s0<|qm rfl<|A1 (K3 (v:=(.b false)) rfl rfl rfl) rfl<|qm rfl<|es (ra6 rfl rfl rfl rfl rfl rfl)<|T2 rfl rfl<|s0<|qm rfl<|A1 (E6 (f:=cI) rfl) rfl<|A1 (D6 rfl) rfl<|A1 (D5 rfl rfl rfl) rfl<|A1 (E6 (f:=A3) rfl) rfl<|A1 (R1 rfl rfl) rfl<|qm rfl<|es (ra5 rfl rfl rfl rfl rfl)<|wi h rfl (fun hc2 h=>?_) fun hc2 h=>?_
  ·obtain rfl:=os h
   exact s0<|A1 (I4 (cs:=A2 plan0) rfl rfl) rfl<|qm rfl<|F8 (C4 (ds:=A2 plan0) rfl rfl rfl rfl (C0 rfl) rfl) rfl<|qm rfl<|es (ra3 rfl rfl rfl)<|D0<|A96 rfl rfl rfl rfl
  refine oB h fun k hk h=>?_
  refine s0<|A1 (D6 rfl) rfl<|A1 (D5 rfl rfl rfl) rfl<|A1 (E6 (f:=A3) rfl) rfl<|A1 (A1w rfl rfl) rfl<|qm rfl<|C2 (rs:=[.b k]) rfl rfl (A4 rfl (A4 rfl (A4 rfl B8))) ((J0 hk).frz)<|qm rfl<|es (ra4 rfl rfl rfl rfl)<|wi h rfl (fun hc3 h=>?_) fun hc3 h=>?_
  ·obtain rfl:=os h
   exact s0<|A1 (I4 (cs:=A2 plan0) rfl rfl) rfl<|qm rfl<|F8 (C4 (ds:=A2 plan0) rfl rfl rfl rfl (C0 rfl) rfl) rfl<|qm rfl<|es (ra3 rfl rfl rfl)<|D0<|A96 rfl rfl rfl rfl
  refine oB h fun o ho h=>?_
  have hroom:∀X:List AO,A3u (H++(.cells (A7 t) :: .cells (A2 plan0) :: .cells (A7 t) :: .map (A44 ch) :: .cells (A03 t (H.length + 3)) :: X)) (H.length + 4) t ch:=fun X=>⟨_,D2 rfl,W5 rfl⟩
  refine C9<|sg 5 rfl<|qm rfl<|R8 (R4 rfl rfl (A4 rfl B8) (B5c (hroom _)) rfl) rfl<|A1 D9 rfl<|F8 (C4 (ds:=cP (.nils 1) (begin0 t)) rfl rfl rfl rfl (N4 (Nat.le_add_right _ _)) rfl) rfl<|es (ra4 rfl rfl rfl rfl)<|C1<|s0<|qm rfl<|A1 (E6 (f:=cI) rfl) rfl<|qm rfl<|es (ra7 rfl rfl rfl rfl rfl rfl rfl)<|C6 ?_
  refine Y5 (B7k (fun (g:AV × List AO) (s:Int × dress_plan)=>fz1 g.1 = g.1∧A3v H.length (.cells (A7 t) :: .cells (A2 plan0) :: .cells (A7 t) :: .map (A44 ch) :: .cells (A03 t (H.length + 3)) :: .cells (cP g.1 s.2) :: g.2) g.1 (s.2.figures_.map cI))
   (fun g s=>[(1,.seq 1 (figs.map cI)),(5,.ptr (H.length + 1) 0),(7,.ptr (H.length + 4) 0),(9,.ptr (H.length + 5) 0),(40,.seq 1 (figs.map cI)),(41,.i (List.length figs:Int)),(42,.i s.1)])
   (fun g s=>H++(.cells (A7 t) :: .cells (A2 plan0) :: .cells (A7 t) :: .map (A44 ch) :: .cells (A03 t (H.length + 3)) :: .cells (cP g.1 s.2) :: g.2))
   (fun o e s' H'=>match o with
    | .inl _=>e = .ret∧PlQ H (plan0,5) e s' H'
    | .inr p=>∃ g:AV × List AO,fz1 g.1 = g.1∧PX 1 [(5,.ptr (H.length + 1) 0),(7,.ptr (H.length + 4) 0),(9,.ptr (H.length + 5) 0)] (H++(.cells (A7 t) :: .cells (A2 plan0) :: .cells (A7 t) :: .map (A44 ch) :: .cells (A03 t (H.length + 3)) :: .cells (cP g.1 p) :: g.2)) e s' H')
   (fun _ _=>rfl) (by decide) (fun g s o hI hs=>?_) ho (.nils 1,[]) ⟨rfl,.inl ⟨rfl,rfl⟩⟩) ?_
  ·obtain ⟨hfz,hfig⟩:=hI
   unfold B1o at hs
   refine s0<|A1 (L8 rfl rfl) rfl<|es (ra8 rfl rfl rfl rfl rfl rfl rfl rfl)<|C1<|wi hs rfl (fun hc hs=>?_) fun hc hs=>?_
   ·refine oB hs fun f hf hs=>oB hs fun pre hpre hs=>oB hs fun k hk hs=>?_
    refine C9<|C1<|C6<|s0<|qm rfl<|A1 (L4 (f:=cI) rfl rfl hf) rfl<|A1 (S6 rfl rfl) rfl<|qm rfl<|qm rfl<|es (ra9 rfl rfl rfl rfl rfl rfl rfl rfl rfl)<|C1<|s0<|qm rfl<|qm rfl<|A1 (B1c (f:=cI) rfl rfl rfl hpre) rfl<|qm rfl<|C2 (rs:=[.b k]) rfl rfl (A4 rfl (A4 rfl B8)) ((A1n hk).frz)<|es (ra10 rfl rfl rfl rfl rfl rfl rfl rfl rfl rfl)<|wi hs rfl (fun hc4 hs=>?_) fun hc4 hs=>?_
    ·obtain rfl:=os hs
     refine s0<|A1 (I4 (cs:=A2 plan0) rfl rfl) rfl<|qm rfl<|F8 (C4 (ds:=A2 plan0) rfl rfl rfl rfl (C0 rfl) rfl) rfl<|qm rfl<|es (ra3 rfl rfl rfl)<|D0 ?_
     exact ⟨rfl,_,Sub.refl _,rfl,A96 rfl rfl rfl rfl⟩
    ·refine oB hs fun p hp hs=>?_
     have hw:=fun c'=>B97 (c:=c') hfig.shr hfig.young hp
     refine C9<|r0<|A1 (G1 (ds:=cP g.1 s.2) rfl rfl rfl rfl) rfl<|qm rfl<|qm rfl<|qm rfl<|qm rfl<|W7 (rs:=[.agg (B2 (A16 ch f s.1))]) rfl rfl (J8 rfl (J8 rfl (J8 rfl A00))) (A4 rfl (A4 rfl (A4 rfl B8))) ((B83 (hroom _).toRo f s.1).frz)<|R8 (O4 rfl rfl (hw _) rfl) rfl ?_
     rw [List.append_assoc]
     refine F8 (C4 (ds:=cP (.asl (H.length + (g.2.length + 6 + 3)) p.figures_.length) p) rfl rfl rfl rfl (N4 (Nat.le_add_right _ _)) ?_) rfl<|en (ra7 rfl rfl rfl rfl rfl rfl rfl)<|r0<|A1 (G9 rfl rfl) rfl<|qm rfl<|en (ra7 rfl rfl rfl rfl rfl rfl rfl) ?_
     ·refine congrArg (fun n=>cP (.asl n p.figures_.length) p) (?_:(H++_).length + 3 = H.length + (g.2.length + 6 + 3))
      rw [List.length_append]
      simp only [List.length_cons]
      omega
     ·cases hs
      refine ⟨rfl,(.asl (H.length + (g.2.length + 6 + 3)) p.figures_.length,g.2++B7g (H++(.cells (A7 t) :: .cells (A2 plan0) :: .cells (A7 t) :: .map (A44 ch) :: .cells (A03 t (H.length + 3)) :: .cells (cP g.1 s.2) :: g.2)) g.1 (A16 ch f s.1) p),⟨rfl,.inr ⟨g.2.length + 6 + 3,X9 (H++(.cells (A7 t) :: .cells (A2 plan0) :: .cells (A7 t) :: .map (A44 ch) :: .cells (A03 t (H.length + 3)) :: .cells (cP g.1 s.2) :: g.2)) g.1,?_,?_,?_⟩⟩,su7 rfl rfl rfl rfl rfl rfl rfl,rfl⟩
      ·rw [List.length_map]
      ·rw [show g.2.length + 6 + 3 = (g.2.length + 3) + 6 by omega]
       simp only [List.getElem?_cons_succ]
       rw [List.getElem?_append_right (by omega),Nat.add_sub_cancel_left]
       rfl
      ·rw [List.drop_of_length_le (by simp [B7g])]; rfl
   ·refine I5 ?_
    obtain rfl:=os hs
    exact ⟨rfl,_,su3 rfl rfl rfl,g,hfz,px⟩
  ·rintro e s' H' ⟨-,q⟩
   rcases o with o | p
   ·obtain ⟨rfl,q⟩:=q
    cases h
    exact q
   ·obtain ⟨g,hfz,rfl,rfl,rfl⟩:=q
    cases h
    refine s0<|qm rfl<|A1 (G1 (ds:=cP g.1 p) rfl rfl rfl rfl) rfl<|qm rfl<|F8 (C4 (ds:=cP g.1 p) rfl rfl rfl rfl (N4 (Nat.le_add_right _ _)) rfl) rfl<|qm rfl<|es (ra3 rfl rfl rfl)<|D0 ?_
    exact ⟨trivial,_,g.1,_,rfl,hfz,B3 rfl (L7 (G1 (ds:=cP g.1 p) rfl rfl rfl rfl) (B3 rfl B6)),B17 B81⟩
theorem B5m {c:Sc} {H:A0} {b o n:Nat} {l r:List Int} (hr:∀M,rd (H++M) (.csl b o 1 n) 1 (l.map cI)) (h:app 8 ([]:List Int) l = some r) :
  T3 tab c H (.fn (.func 58) [] []) [.csl b o 1 n] [.seq 1 (r.map cI)]:= by
 refine cF rfl rfl<|s0<|qm rfl<|es (ra1 rfl)<|C1<|s0<|qm rfl<|A1 (C4i rfl) rfl<|es (ra2 rfl rfl)<|T2 rfl rfl<|C9<|sg 0 rfl<|A1 (C4e (rows:=List.map cI []) rfl rfl rfl) rfl<|qm rfl<|R8 (C4d (f:=cI) (d:=[]) rfl rfl rfl rfl (hr _) (fun _=>rfl) h) rfl<|qm rfl<|es (ra1 rfl)<|D0 ?_
 exact ⟨_,retq trivial (B3 rfl B6) (A8 rfl B9) (A5 G3 B4),rfl⟩
def A27 (t:DrRoom) (figs:List Int):Option (List Int × Int) :=
 (A7c t figs).bind fun x =>
 if (x.2 != 0) = true then some ([],x.2)
 else (slc (Ar4.l x.1.left_) 0 (List.length t.Ounces:Int)).bind fun v=>(app 8 ([]:List Int) v).bind fun w=>some (w,0)
def A28 (t:DrRoom) (figs:List Int):Option (Int × Int) :=
 (A7c t figs).bind fun x =>
 if (x.2 != 0) = true then some (0,x.2)
 else (M0 x.1).bind fun k=>if (!k) = true then some (0,9) else some (x.1.cost_,0)
theorem A7d {c:Sc} {H:A0} {l:List AO} {T:Tab} {s:B1} {n0:Nat} {v0 f:AV} {L:List AO} {p:dress_plan} {e:Int} {args:List Opd} {t:DrRoom} {figs:List Int} (hv:fzA v0 = v0) (hf:fz1 f = f) (ha:evs s args = some [.agg (A7 t),.seq 1 (figs.map cI)])
  (h:F1 T c (H++l) (.fn (.func 57) [] []) [.agg (A7 t),.seq 1 (figs.map cI)] [v0,.agg (cP f p),.i e] (H++l++L)):One T c n0 s (H++l) (.call (.f 57) args [] false) (packed [v0,.agg (cP f p),.i e]) (H++(l++L)):= by
 rw [← List.append_assoc]
 refine R4 rfl ha (A4 (E4 rfl) (A4 rfl B8)) h ?_
 show [fzA v0,AV.agg [fz1 f,.i p.cost_,.i p.left_.x0,.i p.left_.x1,.i p.left_.x2,.i p.left_.x3],.i e] = _
 rw [hv,hf]; rfl
theorem A5e {c:Sc} {H:A0} {a0:DrRoom} {a1:List Int} {r:List Int × Int} (h:A27 a0 a1 = some r) :
  F2 tab c H (.fn (.func 22) [] []) [(.agg (A7 a0)),(.seq 1 (List.map cI a1))] [(.seq 1 (List.map cI r.1)),.i r.2]:= by
 unfold A27 at h
 refine oB h fun x hx h=>?_
 obtain ⟨v0,f,L,hv,hf,hp⟩:=B1p (c:=⟨H.length,c.cur :: c.outer⟩) (H:=H++[.cells (A7 a0),.dead]) hx
 refine cE rfl rfl<|sg 0 rfl<|A1 (H8 (cs:=A7 a0) rfl rfl rfl) rfl<|qm rfl<|qm rfl<|es (ra2 rfl rfl)<|sg 1 rfl<|A1 (C5 rfl rfl rfl) rfl<|qm rfl<|R8 (A7d hv hf rfl hp) rfl<|qm rfl<|A1 (A6 rfl rfl) rfl<|A1 (A6 rfl rfl) rfl<|A1 (A6 rfl rfl) rfl<|A1 D9 rfl<|qm rfl<|F8 (C4 (ds:=cP f x.1) rfl rfl rfl rfl (N4 (Nat.le_add_right _ _)) rfl) rfl<|qm rfl<|es (ra3 rfl rfl rfl)<|C1<|s0<|qm rfl<|A1 (R1 rfl rfl) rfl<|es (ra4 rfl rfl rfl rfl)<|wi h rfl (fun hc h=>?_) fun hc h=>?_
 ·obtain rfl:=os h
  refine s0<|qm rfl<|qm rfl<|qm rfl<|es (ra2 rfl rfl)<|D0 ?_
  exact retq trivial (B3 rfl (B3 rfl B6)) (A8 rfl (A8 rfl B9)) (A5 G3 (A5 A9 B4))
 ·refine oB h fun v hv2 h=>oB h fun w hw h=>?_
  obtain rfl:=os h
  refine C9<|s0<|A1 (D6 rfl) rfl<|A1 (D6 rfl) rfl<|A1 (D5 rfl rfl rfl) rfl<|A1 (E6 (f:=cI) rfl) rfl<|A1 (B6i (cs:=cP f x.1) (e:=Ar4.l x.1.left_) (m':=v) rfl (D2 rfl) rfl rfl rfl hv2) rfl<|C2 (rs:=[.seq 1 (w.map cI)]) rfl rfl (A4 rfl B8) (B5m (fun M=>?_) hw)<|qm rfl<|qm rfl<|es (ra2 rfl rfl)<|D0 ?_
  ·exact C5d (f:=cI) (cs:=cP f x.1) (e:=Ar4.l x.1.left_) (p:=Int.toNat (List.length a0.Ounces:Int)) (post:=[]) (J7 (D2 rfl) _) rfl rfl (fun _=>rfl) (slc0 hv2) rfl
  ·exact retq trivial (B3 rfl (B3 rfl B6)) (A8 rfl (A8 rfl B9)) (A5 G3 (A5 A9 B4))
theorem A5f {c:Sc} {H:A0} {a0:DrRoom} {a1:List Int} {r:Int × Int} (h:A28 a0 a1 = some r) :
  F2 tab c H (.fn (.func 24) [] []) [(.agg (A7 a0)),(.seq 1 (List.map cI a1))] [.i r.1,.i r.2]:= by
 unfold A28 at h
 refine oB h fun x hx h=>?_
 obtain ⟨v0,f,L,hv,hf,hp⟩:=B1p (c:=⟨H.length,c.cur :: c.outer⟩) (H:=H++[.cells (A7 a0),.dead]) hx
 refine cE rfl rfl<|sg 0 rfl<|A1 (H8 (cs:=A7 a0) rfl rfl rfl) rfl<|qm rfl<|qm rfl<|es (ra2 rfl rfl)<|sg 1 rfl<|A1 (C5 rfl rfl rfl) rfl<|qm rfl<|R8 (A7d hv hf rfl hp) rfl<|qm rfl<|A1 (A6 rfl rfl) rfl<|A1 (A6 rfl rfl) rfl<|A1 (A6 rfl rfl) rfl<|A1 D9 rfl<|qm rfl<|F8 (C4 (ds:=cP f x.1) rfl rfl rfl rfl (N4 (Nat.le_add_right _ _)) rfl) rfl<|qm rfl<|es (ra2 rfl rfl)<|C1<|C6<|s0<|qm rfl<|A1 (R1 rfl rfl) rfl<|qm rfl<|es (ra3 rfl rfl rfl)<|wi h rfl (fun hc h=>?_) fun hc h=>?_
 ·obtain rfl:=os h
  refine s0<|qm rfl<|qm rfl<|qm rfl<|es (ra2 rfl rfl)<|D0 ?_
  exact retq trivial (B3 rfl (B3 rfl B6)) (A8 rfl (A8 rfl B9)) (A5 A9 (A5 A9 B4))
 ·refine oB h fun k hk h=>?_
  refine s0<|A1 (G1 (ds:=cP f x.1) rfl rfl rfl rfl) rfl<|R8 (O4 (rs':=[.b k]) rfl rfl (B0b hk).1 rfl) rfl<|A1 (A4m rfl) rfl<|qm rfl<|es (ra2 rfl rfl)<|wi h rfl (fun hc2 h=>?_) fun hc2 h=>?_
  ·obtain rfl:=os h
   refine s0<|qm rfl<|qm rfl<|es (ra2 rfl rfl)<|D0 ?_
   exact retq trivial (B3 rfl (B3 rfl B6)) (A8 rfl (A8 rfl B9)) (A5 A9 (A5 A9 B4))
  ·obtain rfl:=os h
   refine C9<|s0<|A1 (D6 rfl) rfl<|A1 (D5 (x:=.i x.1.cost_) rfl rfl rfl) rfl<|qm rfl<|qm rfl<|es (ra2 rfl rfl)<|D0 ?_
   exact retq trivial (B3 rfl (B3 rfl B6)) (A8 rfl (A8 rfl B9)) (A5 A9 (A5 A9 B4))
end Ds
end
section
set_option maxRecDepth 100000
set_option maxHeartbeats 0
namespace Ds
open Go Am Go.Proofs.Ytdkflofgolehkaa.Cd
def A30 (a0:dress_plan):Option Int :=
 (M1 a0).bind fun x1 =>
 some x1.2
theorem B1f {c:Sc} {H:A0} {a0:dress_plan} {r:Int} (h:A30 a0 = some r) :
  F2 tab c H (.fn (.func 74) [] []) [(.agg (A2 a0))] [.i r]:= by
 unfold A30 at h
 refine cE rfl rfl<|sg 0 rfl<|A1 (H8 (cs:=A2 a0) rfl rfl rfl) rfl<|qm rfl<|es (ra1 rfl)<|sg 1 rfl<|oB h fun x1 hx1 h=>A1 (C5 rfl rfl rfl) rfl<|R8 (A1o (rs:=[(.agg ((V1 cI) x1.1)),.i x1.2]) rfl rfl ((A01 hx1).frz)) rfl<|qm rfl<|A1 (A6 rfl rfl) rfl<|A1 (A6 rfl rfl) rfl<|A1 D9 rfl<|F8 (C4 (ds:=((V1 cI) x1.1)) rfl rfl rfl rfl (C0 rfl) rfl) rfl<|qm rfl<|es (ra1 rfl)<|s0<|qm rfl<|qm rfl<|es (ra1 rfl)<|D0 ?_
 obtain rfl:=os h
 exact retq trivial (B3 rfl B6) (A8 rfl B9) (A5 A9 B4)
def A31 (a0:dress_plan):Option Int :=
 some a0.cost_
theorem B1g {c:Sc} {H:A0} {a0:dress_plan} {r:Int} (h:A31 a0 = some r) :
  F2 tab c H (.fn (.func 76) [] []) [(.agg (A2 a0))] [.i r]:= by
 unfold A31 at h
 refine cE rfl rfl<|sg 0 rfl<|A1 (H8 (cs:=A2 a0) rfl rfl rfl) rfl<|qm rfl<|es (ra1 rfl)<|s0<|A1 (D6 rfl) rfl<|A1 (D5 rfl rfl rfl) rfl<|qm rfl<|es (ra1 rfl)<|D0 ?_
 obtain rfl:=os h
 exact retq trivial (B3 rfl B6) (A8 rfl B9) (A5 A9 B4)
end Ds
end
section
set_option maxRecDepth 100000
namespace Ds
open Go Am Go.Proofs.Ytdkflofgolehkaa.Cd
def by2:By:=[(74,A30),(76,A31)]
theorem C5k:C5f by2:= by
 intro z hz p r c H h
 rcases List.mem_cons.1 hz with rfl | hz
 ·exact (B1f h).frz
 ·obtain rfl:=List.mem_singleton.1 hz
  exact (B1g h).frz
def B7q (x:dress_plan) (s:List dress_plan):Option (List dress_plan ⊕ Unit) :=
 (A09 x).bind fun q=>(app 64 s [q]).bind fun s'=>some (.inl s')
def A4s (t:DrRoom):Option (List Int × Int × Int) :=
 (L2 t).bind fun x1 =>
 if (x1.2.2 != 0) = true then some ([],0,x1.2.2)
 else (loop (O3 t) (0,[])).bind fun ch =>
  (J1 ⟨t⟩).bind fun w =>
  (A95 t ch w (List dress_plan) Unit B7q []).bind fun o =>
  match o with
  | .inr _=>none
  | .inl all =>
   (N9 all (fun y=>B57 by2 y.1 y.2)).bind fun z =>
   if (!z.2) = true then some ([],0,9)
   else (M1 z.1).bind fun u=>(slc (Ar4.l u.1) 0 (List.length t.Ounces:Int)).bind fun v=>(app 8 ([]:List Int) v).bind fun o=>some (o,z.1.cost_,0)
def A04 (N:Nat) (t:DrRoom) (ch:Chg) (persons:Int) (s:List dress_plan):List AO:=[.cells (A7 t),.cells (A7 t),.map (A44 ch),.cells (A03 t (N + 2)),.arr 6 false (s.map A2),.cells [.asl (N + 4) s.length],.cells [.ptr (N + 3) 0],.cells [.i persons]]
theorem A67 {c:Sc} {H:A0} (hscv:O5 c H = true) {a0:DrRoom} {r:List Int × Int × Int} (h:A4s a0 = some r) :
  F2 tab c H (.fn (.func 34) [] []) [(.agg (A7 a0))] [(.seq 1 (List.map cI r.1)),.i r.2.1,.i r.2.2]:= by
 unfold A4s at h
 refine oB h fun x1 hx1 h=>?_
 refine cE rfl rfl<|sg 0 rfl<|A1 (H8 (cs:=A7 a0) rfl rfl rfl) rfl<|qm rfl<|qm rfl<|qm rfl<|es (ra1 rfl) ?_
 by_cases hc1:(x1.2.2 != 0) = true
 ·rw [if_pos hc1] at h
  obtain rfl:=os h
  refine s0<|A1 (C5 rfl rfl rfl) rfl<|R8 (R4 rfl rfl (A4 (E4 rfl) B8) (B0z hx1 hc1) rfl) rfl<|qm rfl<|A1 (A6 rfl rfl) rfl<|A1 (A6 rfl rfl) rfl<|qm rfl<|qm rfl<|es (ra3 rfl rfl rfl)<|C1<|s0<|qm rfl<|A1 (R1 rfl rfl) rfl<|es (ra4 rfl rfl rfl rfl)<|N5 rfl hc1<|s0<|qm rfl<|qm rfl<|qm rfl<|qm rfl<|es (ra3 rfl rfl rfl)<|D0 ?_
  exact retq trivial (B3 rfl (B3 rfl (B3 rfl B6))) (A8 rfl (A8 rfl (A8 rfl B9))) (A5 G3 (A5 A9 (A5 A9 B4)))
 ·rw [if_neg hc1] at h
  have hc1:(x1.2.2 != 0) = false:=Bool.eq_false_iff.2 hc1
  refine oB h fun ch hch h=>oB h fun w hw h=>oB h fun o8 ho8 h=>?_
  have hlook:F1 tab ⟨H.length,c.cur :: c.outer⟩ (H++[.cells (A7 a0)]) (.fn (.func 52) [] []) [(.agg (A7 a0))] [.ptr (H.length + 3) 0,.i 0] (H++[.cells (A7 a0),.cells (A7 a0),.map (A44 ch),.cells (A03 a0 (H.length + 2))]):= by
   have:=B00 (c:=⟨H.length,c.cur :: c.outer⟩) (H:=H++[.cells (A7 a0)]) hx1 hc1 hch
   unfold B9p at this
   rw [List.length_append,List.append_assoc] at this
   exact this
  refine s0<|A1 (C5 rfl rfl rfl) rfl<|R8 (R4 rfl rfl (A4 (E4 rfl) B8) hlook rfl) rfl<|qm rfl<|A1 (A6 rfl rfl) rfl<|A1 (A6 rfl rfl) rfl<|qm rfl<|qm rfl<|es (ra3 rfl rfl rfl)<|C1<|s0<|qm rfl<|A1 (K3 (v:=(.b false)) rfl rfl rfl) rfl<|es (ra4 rfl rfl rfl rfl)<|T2 rfl rfl<|C9<|sg 4 rfl<|A1 B6e rfl<|es (ra3 rfl rfl rfl)<|C1<|s0<|qm rfl<|qm rfl<|C2 (rs:=[.i w]) rfl rfl (A4 rfl B8) ((J6 (a0:=⟨a0⟩) (D2 rfl) hw).frz)<|A0f (as2:=[.ptr (H.length + 3) 0,.i w]) (H1:=(H++[.cells (A7 a0),.cells (A7 a0),.map (A44 ch),.cells (A03 a0 (H.length + 2)),.arr 6 false [],.cells [.asl (H.length + 4) 0]])) rfl rfl (A4 rfl (A4 rfl B8)) rfl rfl rfl (A3g rfl)<|sg 6 rfl<|A1 (H8 (cs:=[.ptr (H.length + 3) 0]) rfl rfl rfl) rfl<|A1 (H8 (cs:=[.i w]) rfl rfl rfl) rfl<|qm rfl<|es (ra2 rfl rfl)<|s0<|A1 (A3j rfl rfl) rfl<|qm rfl<|es (ra1 rfl)<|D0<|InlQ.mk trivial ⟨_,_,_,[(.fn (.func 100) [] [(.ptr (H.length + 6) 0),(.ptr (H.length + 7) 0)])],_,(B3 rfl B6),(A8 rfl B9),(A3f (Y7 (C1p (Y7 (A20 rfl)))) (I0 rfl Z4)),?_⟩
  refine es (ra3 rfl rfl rfl)<|C6<|B7e (σ:=List dress_plan) (ρ:=Unit) (k:=8) (body:=B7q) (sh:=shP) (pre:=fun H1=>hcells H1 (H.length + 6) = some [.ptr (H.length + 3) 0]∧hcells H1 (H.length + 7) = some [.i w]∧A3u H1 (H.length + 3) a0 ch) (B6t (t:=a0) (ch:=ch) (persons:=w) (b1:=H.length + 6) (b2:=H.length + 7) (b:=H.length + 3)) [(6,(.ptr (H.length + 5) 0))] (A04 H.length a0 ch w) (fun (_:Unit)=>A04 H.length a0 ch w []) (fun _=>.ret) ho8 (fun _=>rfl) rfl (fun S hS=>K9 (live:=[6]) rfl (by decide) (Sub.trans (su1 rfl) hS)) rfl (fun _=>rfl) (fun _=>rfl) ⟨fun _ _=>⟨D2 rfl,D2 rfl,⟨_,D2 rfl,W5 rfl⟩⟩,fun _ _=>⟨D2 rfl,D2 rfl,⟨_,D2 rfl,W5 rfl⟩⟩⟩ (A2h hscv) (fun c x s o L v hsc hgr hv hbo y0 y1=>?_) ?_
  ·obtain ⟨f,rfl,hf⟩:=hv
   unfold B7q at hbo
   have hlm:∀(z:AO),(A04 H.length a0 ch w s++z :: L).length = 9 + L.length:=fun z=>by simp [A04]; omega
   have hlen:(H++(A04 H.length a0 ch w s++y0 :: L)).length = H.length + (9 + L.length):= by rw [List.length_append,hlm]
   have hfr:A3v (H++(A04 H.length a0 ch w s++[y1])).length (L++[AO.cells (cP f x)]) f (x.figures_.map cI):= by
    rw [List.length_append]
    exact hf.app rfl
   have hsh:∀(M:A0),A58 (H++(A04 H.length a0 ch w s++y1 :: (L++[AO.cells (cP f x)]))++M) 1 f (x.figures_.map cI):=fun M=>by
    have:=hfr.shr.toR.app (L:=M)
    simpa using this
   refine Y5 (Q:=fun e s1 H1=>e = .normal∧Sub [(6,(.ptr (H.length + 5) 0)),(7,(.ptr (H.length + (9 + L.length)) 0))] s1∧H1 = H++(A04 H.length a0 ch w s++y0 :: (L++[AO.cells (cP f x)]))) ?_ ?_
   ·have key:WP tab (.region false 1 [] [⟨some 7,.alloc [.seq 1 [],.i 0,.i 0,.i 0,.i 0,.i 0] [] 0,none,[],[],0,0⟩,⟨none,.store 6 (.t 7) (.t 25),none,[],[],0,1⟩] [6,7]) [(25,.agg (cP f x)),(6,(.ptr (H.length + 5) 0))] (H++(A04 H.length a0 ch w s++y0 :: L)++[]) ⟨H.length + (8 + 1 + L.length),c⟩ (fun e s1 H1=>e = .normal∧Sub [(6,(.ptr (H.length + 5) 0)),(7,(.ptr (H.length + (9 + L.length)) 0))] s1∧H1 = H++(A04 H.length a0 ch w s++y0 :: (L++[AO.cells (cP f x)]))):= by
     refine rg 0 rfl<|A1 D9 rfl<|F8 (C4 (ds:=cP f x) rfl rfl rfl rfl (N4 ?_) rfl) rfl<|en (ra2 rfl rfl) ⟨rfl,?_,?_⟩
     ·show H.length + (8 + 1 + L.length)≤(H++(A04 H.length a0 ch w s++y0 :: L)).length + 0
      rw [hlen]; omega
     ·rw [← hlen]; exact su2 rfl rfl
     ·show H++(A04 H.length a0 ch w s++y0 :: L)++[AO.cells (cP f x)] = _
      simp
    rw [List.append_nil] at key
    exact key
   ·rintro e s1 H1 ⟨rfl,hsub,rfl⟩
    refine ⟨_,rfl,rfl,rfl,fun S hS=>?_⟩
    refine (?_:WP tab _ [(6,(.ptr (H.length + 5) 0)),(7,(.ptr (H.length + (9 + L.length)) 0))] (H++(A04 H.length a0 ch w s++y1 :: (L++[AO.cells (cP f x)]))) _ _) S (Sub.trans hsub hS)
    have hpb:∀s',(A04 H.length a0 ch w s'++y1 :: (L++[AO.cells (cP f x)]))[9 + L.length]? = some (.cells (cP f x)):=fun s'=>by
     have hl5:(A04 H.length a0 ch w s'++y1 :: L).length = 9 + L.length:= by simp [A04]; omega
     rw [show A04 H.length a0 ch w s'++y1 :: (L++[AO.cells (cP f x)]) = (A04 H.length a0 ch w s'++y1 :: L)++[AO.cells (cP f x)] by simp,List.getElem?_append_right (by rw [hl5]; exact Nat.le_refl _),hl5,Nat.sub_self]; rfl
    have htk:∀s',(A04 H.length a0 ch w s'++y1 :: (L++[AO.cells (cP f x)])).take (8 + 1 + L.length) = A04 H.length a0 ch w s'++y1 :: L:=fun s'=>by
     have hl5:(A04 H.length a0 ch w s'++y1 :: L).length = 8 + 1 + L.length:= by simp [A04]; omega
     rw [show A04 H.length a0 ch w s'++y1 :: (L++[AO.cells (cP f x)]) = (A04 H.length a0 ch w s'++y1 :: L)++[AO.cells (cP f x)] by simp,← hl5]
     exact List.take_left
    refine oB hbo fun q hq hbo=>oB hbo fun s' hs' hbo=>?_
    have hsh0:=(hsh []).toRo
    rw [List.append_nil] at hsh0
    refine C6<|r0<|A1 (D5 (x:=.asl (H.length + 4) s.length) rfl rfl rfl) rfl<|A1 (G1 (ds:=cP f x) rfl (hpb _) rfl rfl) rfl<|A1 (A5y rfl rfl (C24 hsh0 hq)) rfl<|A1 (I2 (rows:=List.map A2 [q]) rfl rfl (E0 (fun _=>rfl) _)) rfl<|R8 (B06 (f:=A2) rfl rfl rfl rfl A4i (fun _=>rfl) hs') rfl<|F8 (C4 (ds:=[.asl (H.length + 4) s'.length]) rfl rfl rfl rfl (B6k (Nat.lt_succ_self _)) rfl) rfl<|en .n ?_
    cases hbo
    exact ⟨_,rfl,rfl,htk _⟩
  ·rcases o8 with all | l8
   ·refine oB h fun z hz h=>?_
    have himp:∀l:List AO,Impl tab (H++l) 78 [.agg [.xseq 1 (by2.map Y8)]] [] (fun y:dress_plan × dress_plan=>B57 by2 y.1 y.2) (fun y=>[(.agg (A2 y.1)),(.agg (A2 y.2))]) (fun y=>[.b y]):=fun l=>by
     refine ⟨⟨?_,rfl⟩,fun H' _ _ c x r' e=>?_⟩
     ·simp only [bdL,AV.bd,B38,Bool.and_self]
     ·exact (A3y (a:=[.agg [.xseq 1 (by2.map Y8)]]) (B9n C5k e)).frz
    refine sg 9 rfl<|A1 (B9v (rows:=by2.map Y8) rfl rfl) rfl<|A1 (I4 (cs:=[.xseq 1 (by2.map Y8)]) rfl rfl) rfl<|A1 D9 rfl<|F8 (C4 (ds:=[.xseq 1 (by2.map Y8)]) rfl rfl rfl rfl (N4 (Nat.le_add_right _ _)) rfl) rfl<|es (ra3 rfl rfl rfl)<|sg 10 rfl<|A1 (D5 (x:=.asl (H.length + 4) all.length) rfl rfl rfl) rfl<|A1 (C5 rfl rfl rfl) rfl<|A1 (A3j rfl rfl) rfl<|C2 (rs:=[.agg (A2 z.1),.b z.2]) rfl rfl (A4 (B0l rfl (List.length_map _)) (A4 rfl B8)) (V8 (himp _) hz).frz<|qm rfl<|A1 (A6 rfl rfl) rfl<|A1 (A6 rfl rfl) rfl<|A1 D9 rfl<|F8 (C4 (ds:=A2 z.1) rfl rfl rfl rfl (C0 rfl) rfl) rfl<|qm rfl<|es (ra3 rfl rfl rfl)<|C1<|s0<|qm rfl<|A1 (A4m rfl) rfl<|es (ra3 rfl rfl rfl)<|wi h rfl (fun hc2 h=>?_) fun hc2 h=>?_
    ·obtain rfl:=os h
     refine s0<|qm rfl<|qm rfl<|qm rfl<|es (ra3 rfl rfl rfl)<|D0 ?_
     exact retq trivial (B3 rfl (B3 rfl (B3 rfl B6))) (A8 rfl (A8 rfl (A8 rfl B9))) (A5 G3 (A5 A9 (A5 A9 B4)))
    ·refine oB h fun u hu h=>oB h fun v hv h=>oB h fun q hq h=>?_
     obtain rfl:=os h
     refine C9<|sg 11 rfl<|A1 (C5 rfl rfl rfl) rfl<|R8 (O4 (rs':=[(.agg ((V1 cI) u.1)),.i u.2]) rfl rfl (B55 hu).1 rfl) rfl<|qm rfl<|A1 (A6 rfl rfl) rfl<|A1 (A6 rfl rfl) rfl<|A1 D9 rfl<|F8 (C4 (ds:=((V1 cI) u.1)) rfl rfl rfl rfl (C0 rfl) rfl) rfl<|qm rfl<|es (ra3 rfl rfl rfl)<|s0<|A1 (D6 rfl) rfl<|A1 (D5 rfl rfl rfl) rfl<|A1 (E6 (f:=cI) rfl) rfl<|A1 (B6i (cs:=(V1 cI) u.1) (e:=Ar4.l u.1) (m':=v) rfl (D2 rfl) rfl rfl rfl hv) rfl<|W7 (rs:=[.seq 1 (q.map cI)]) rfl rfl (J8 rfl A00) (A4 rfl B8) (B5m (fun M=>?_) hq)<|A1 (D6 rfl) rfl<|A1 (D5 (x:=.i z.1.cost_) rfl rfl rfl) rfl<|qm rfl<|qm rfl<|qm rfl<|es (ra3 rfl rfl rfl)<|D0 ?_
     ·exact C5d (f:=cI) (cs:=(V1 cI) u.1) (e:=Ar4.l u.1) (p:=Int.toNat (List.length a0.Ounces:Int)) (post:=[]) (J7 (U5 rfl) _) rfl rfl (fun _=>rfl) (slc0 hv) rfl
     ·exact retq trivial (B3 rfl (B3 rfl (B3 rfl B6))) (A8 rfl (A8 rfl (A8 rfl B9))) (A5 G3 (A5 A9 (A5 A9 B4)))
   ·cases h
end Ds
end
section
set_option maxRecDepth 100000
set_option maxHeartbeats 0
namespace Ds
open Go Am Go.Proofs.Ytdkflofgolehkaa.Cd
def A24 (a0:Int) (a1:Int):Option Bool :=
 (T7 a0).bind fun x1 =>
 (if x1 = true then
  (T7 a1).bind fun x3 =>
  some (!x3)
 else
  some false).bind fun x4 =>
 some (x4 || (decide (a0 < a1)))
theorem A9o {c:Sc} {H:A0} {a0:Int} {a1:Int} {r:Bool} (h:A24 a0 a1 = some r) :
  F2 tab c H (.fn (.func 111) [] []) [.i a0,.i a1] [.b r]:= by
 unfold A24 at h
 refine cE rfl rfl<|s0<|qm rfl<|es (ra2 rfl rfl)<|s0<|oB h fun x1 hx1 h=>oB h fun x4 hx4 h=>qm rfl<|C2 (rs:=[.b x1]) rfl rfl (A4 rfl B8) ((V5 hx1).frz)<|qm rfl<|gp 4 11 (.b x4) 7 rfl rfl (fun hg2=>?_) (fun hg2=>?_) ?_
 ·refine oB (bt hx4 hg2) fun x3 hx3 hx4=>?_
  obtain rfl:=os hx4
  exact gT rfl hg2<|qm rfl<|gT rfl hg2<|C2 (rs:=[.b x3]) rfl rfl (A4 rfl B8) ((V5 hx3).frz)<|gT rfl hg2<|A1 (A4m rfl) rfl<|A1 (D8 rfl hg2 rfl) rfl<|ge 4 rfl rfl rfl
 ·obtain rfl:=os (bf hx4 hg2)
  exact nT rfl hg2 rfl<|S8 (K8 rfl (by rw [hg2]; rfl)) rfl<|nT rfl hg2 rfl<|A1 (D7 rfl hg2 rfl) rfl<|ge 4 rfl rfl rfl
 refine qm rfl<|gp 4 16 (.b (x4 || (decide (a0 < a1)))) 12 rfl rfl (fun hg5=>?_) (fun hg5=>?_) ?_
 ·exact nF rfl hg5 rfl<|nF rfl hg5 rfl<|nF rfl hg5 rfl<|A1 (D8 rfl hg5 rfl) rfl<|ge 4 (by rw [hg5]; rfl) rfl rfl
 ·exact gF rfl hg5<|qm rfl<|gF rfl hg5<|qm rfl<|gF rfl hg5<|A1 (L8 rfl rfl) rfl<|A1 (D7 rfl hg5 rfl) rfl<|ge 4 (by rw [hg5]; rfl) rfl rfl
 refine qm rfl<|es (ra1 rfl)<|D0 ?_
 obtain rfl:=os h
 exact retq trivial (B3 rfl B6) (A8 rfl B9) (A5 A9 B4)
def A0z (a0:Int):Option Int :=
 (if (decide (a0 ≥ 4294967296)) = true then
  (B4w .u64 a0 32).bind fun x3 =>
  some (x3,32)
  else
  some (a0,0)).bind fun (p1:(Int × Int)) =>
 (if (decide (p1.1 ≥ 65536)) = true then
  (B4w .u64 p1.1 16).bind fun x6 =>
  some (x6,(w64 (p1.2 + 16)))
  else
  some (p1.1,p1.2)).bind fun (p4:(Int × Int)) =>
 if (decide (p4.1 ≥ 256)) = true then
  (B4w .u64 p4.1 8).bind fun x8 =>
  (B95 (ByteArray.mk #[0,1,2,2,3,3,3,3,4,4,4,4,4,4,4,4,5,5,5,5,5,5,5,5,5,5,5,5,5,5,5,5,6,6,6,6,6,6,6,6,6,6,6,6,6,6,6,6,6,6,6,6,6,6,6,6,6,6,6,6,6,6,6,6,7,7,7,7,7,7,7,7,7,7,7,7,7,7,7,7,7,7,7,7,7,7,7,7,7,7,7,7,7,7,7,7,7,7,7,7,7,7,7,7,7,7,7,7,7,7,7,7,7,7,7,7,7,7,7,7,7,7,7,7,7,7,7,7,8,8,8,8,8,8,8,8,8,8,8,8,8,8,8,8,8,8,8,8,8,8,8,8,8,8,8,8,8,8,8,8,8,8,8,8,8,8,8,8,8,8,8,8,8,8,8,8,8,8,8,8,8,8,8,8,8,8,8,8,8,8,8,8,8,8,8,8,8,8,8,8,8,8,8,8,8,8,8,8,8,8,8,8,8,8,8,8,8,8,8,8,8,8,8,8,8,8,8,8,8,8,8,8,8,8,8,8,8,8,8,8,8,8,8,8,8,8,8,8,8,8,8,8,8,8,8,8]) (IntKind.u8.wrap x8)).bind fun x9 =>
  some (w64 ((w64 (p4.2 + 8)) + (w64 x9)))
 else
  (B95 (ByteArray.mk #[0,1,2,2,3,3,3,3,4,4,4,4,4,4,4,4,5,5,5,5,5,5,5,5,5,5,5,5,5,5,5,5,6,6,6,6,6,6,6,6,6,6,6,6,6,6,6,6,6,6,6,6,6,6,6,6,6,6,6,6,6,6,6,6,7,7,7,7,7,7,7,7,7,7,7,7,7,7,7,7,7,7,7,7,7,7,7,7,7,7,7,7,7,7,7,7,7,7,7,7,7,7,7,7,7,7,7,7,7,7,7,7,7,7,7,7,7,7,7,7,7,7,7,7,7,7,7,7,8,8,8,8,8,8,8,8,8,8,8,8,8,8,8,8,8,8,8,8,8,8,8,8,8,8,8,8,8,8,8,8,8,8,8,8,8,8,8,8,8,8,8,8,8,8,8,8,8,8,8,8,8,8,8,8,8,8,8,8,8,8,8,8,8,8,8,8,8,8,8,8,8,8,8,8,8,8,8,8,8,8,8,8,8,8,8,8,8,8,8,8,8,8,8,8,8,8,8,8,8,8,8,8,8,8,8,8,8,8,8,8,8,8,8,8,8,8,8,8,8,8,8,8,8,8,8,8]) (IntKind.u8.wrap p4.1)).bind fun x10 =>
  some (w64 (p4.2 + (w64 x10)))
theorem A5x {c:Sc} {H:A0} {a0:Int} {r:Int} (h:A0z a0 = some r) :
  F2 tab c H (.fn (.func 115) [] []) [(.lit (.int .u64 a0))] [.i r]:= by
 unfold A0z at h
 refine cE rfl rfl<|s0<|qm rfl<|es (ra2 rfl rfl)<|C1<|s0<|qm rfl<|A1 (A6d rfl rfl) rfl<|es (ra3 rfl rfl rfl)<|oB h fun p1 hp1 h=>C3i (Q1:=fun e s' H'=>e = .normal∧s' = [(0,(.lit (.int .u64 p1.1))),(2,.i p1.2)]∧H' = (H++[])) ?_ ?_
 ·refine wi hp1 rfl (fun hc2 hp1=>?_) fun hc2 hp1=>?_
  ·refine s0<|oB hp1 fun x3 hx3 hp1=>qm rfl<|A1 (B1b rfl rfl hx3) rfl<|qm rfl<|es (ra1 rfl)<|r0<|qm rfl<|en (ra2 rfl rfl) ?_
   obtain rfl:=os hp1
   exact me (And.intro rfl (And.intro rfl rfl)) (su2 rfl rfl)
  ·refine C9 ?_
   obtain rfl:=os hp1
   exact me (And.intro rfl (And.intro rfl rfl)) (su2 rfl rfl)
 ·rintro e s' H' ⟨rfl,rfl,rfl⟩
  refine C1<|s0<|qm rfl<|A1 (A6d rfl rfl) rfl<|es (ra3 rfl rfl rfl)<|oB h fun p4 hp4 h=>C3i (Q1:=fun e s' H'=>e = .normal∧s' = [(0,(.lit (.int .u64 p4.1))),(2,.i p4.2)]∧H' = (H++[])) ?_ ?_
  ·refine wi hp4 rfl (fun hc5 hp4=>?_) fun hc5 hp4=>?_
   ·refine s0<|oB hp4 fun x6 hx6 hp4=>qm rfl<|A1 (B1b rfl rfl hx6) rfl<|qm rfl<|es (ra2 rfl rfl)<|r0<|qm rfl<|A1 (G9 rfl rfl) rfl<|qm rfl<|en (ra2 rfl rfl) ?_
    obtain rfl:=os hp4
    exact me (And.intro rfl (And.intro rfl rfl)) (su2 rfl rfl)
   ·refine C9 ?_
    obtain rfl:=os hp4
    exact me (And.intro rfl (And.intro rfl rfl)) (su2 rfl rfl)
  ·rintro e s' H' ⟨rfl,rfl,rfl⟩
   refine C1<|s0<|qm rfl<|A1 (A6d rfl rfl) rfl<|es (ra3 rfl rfl rfl)<|wi h rfl (fun hc7 h=>?_) fun hc7 h=>?_
   ·refine s0<|oB h fun x8 hx8 h=>qm rfl<|A1 (B1b rfl rfl hx8) rfl<|qm rfl<|es (ra2 rfl rfl)<|r0<|qm rfl<|A1 (G9 rfl rfl) rfl<|qm rfl<|en (ra2 rfl rfl)<|s0<|oB h fun x9 hx9 h=>qm rfl<|qm rfl<|A1 (B07 rfl) rfl<|A1 (B6f rfl rfl hx9) rfl<|A1 (B07 rfl) rfl<|A1 (G9 rfl rfl) rfl<|qm rfl<|es (ra1 rfl)<|D0 ?_
    obtain rfl:=os h
    exact retq trivial (B3 rfl B6) (A8 rfl B9) (A5 A9 B4)
   ·refine C9<|s0<|oB h fun x10 hx10 h=>qm rfl<|qm rfl<|A1 (B07 rfl) rfl<|A1 (B6f rfl rfl hx10) rfl<|A1 (B07 rfl) rfl<|A1 (G9 rfl rfl) rfl<|qm rfl<|es (ra1 rfl)<|D0 ?_
    obtain rfl:=os h
    exact retq trivial (B3 rfl B6) (A8 rfl B9) (A5 A9 B4)
def A2b (a0:Int):Option Int :=
 (A0z a0).bind fun x1 =>
 some x1
theorem A8e {c:Sc} {H:A0} {a0:Int} {r:Int} (h:A2b a0 = some r) :
  F2 tab c H (.fn (.func 97) [] []) [(.lit (.int .u64 a0))] [.i r]:= by
 unfold A2b at h
 refine cE rfl rfl<|s0<|qm rfl<|es (ra1 rfl)<|C1<|T2 rfl rfl<|C9<|s0<|oB h fun x1 hx1 h=>qm rfl<|C2 (rs:=[.i x1]) rfl rfl (A4 rfl B8) ((A5x hx1).frz)<|qm rfl<|es (ra1 rfl)<|D0 ?_
 obtain rfl:=os h
 exact retq trivial (B3 rfl B6) (A8 rfl B9) (A5 A9 B4)
end Ds
end
section
set_option maxRecDepth 100000
namespace Am
open Go
theorem B3l {σ ρ:Type} {b:σ→Option (σ ⊕ ρ)} (I:σ→Prop) (J:ρ→Prop) (hs:∀x y,I x→b x = some (.inl y)→I y) (he:∀x r,I x→b x = some (.inr r)→J r) {x0:σ} {r:ρ} (h0:I x0) (h:loop b x0 = some r):J r:= by
 have key:∀n x0,I x0→B01 b n x0 = some r→J r:= by
  intro n
  induction n with
  | zero=>intro x0 _ h; cases h
  | succ n ih =>
   intro x0 hI h
   rw [A3h] at h
   split at h
   ·next x' hb=>exact ih x' (hs _ _ hI hb) h
   ·next r' hb=>simp only [Option.some.injEq] at h; subst h; exact he _ _ hI hb
   ·cases h
 exact key _ _ h0 h
end Am
namespace Ds
open Go Am Go.Proofs.Ytdkflofgolehkaa.Cd
def A98 (a:Int) (s:Int × List Int):Option ((Int × List Int) ⊕ List Int) :=
 (if (decide (s.1 > a)) = true then (idx s.2 s.1).bind fun x=>(idx s.2 (w64 (s.1 - 1))).bind fun y=>(A24 x y).bind fun z=>some z else some false).bind fun g =>
 if g = true then
  (idx s.2 (w64 (s.1 - 1))).bind fun y=>(idx s.2 s.1).bind fun x =>
  (idx (A7p s.2 s.1 y) (w64 (s.1 - 1))).bind fun _ =>
  some (.inl (w64 (s.1 - 1),A7p (A7p s.2 s.1 y) (w64 (s.1 - 1)) x))
 else some (.inr s.2)
def A97 (a b:Int) (s:Int × List Int):Option ((Int × List Int) ⊕ List Int) :=
 if (decide (s.1 < b)) = true then
  (loop (A98 a) (s.1,s.2)).bind fun l=>some (.inl (w64 (s.1 + 1),l))
 else some (.inr s.2)
def B69 (a b:Int) (l:List Int):Option (List Int):=loop (A97 a b) (w64 (a + 1),l)
def ar1 (l:List Int):AO:=.arr 1 false (l.map cI)
theorem C3f {c:Sc} {A B:A0} {a b:Int} {l r:List Int} (h:B69 a b l = some r) :
  F1 tab c (A++(ar1 l :: B)) (.fn (.func 105) [] []) [.asl (A.length + 0) l.length,.i a,.i b] [] (A++(ar1 r :: B)):= by
 unfold B69 at h
 have htk:∀x:AO,(x :: B).take (B.length + 1) = x :: B:=fun x=>List.take_of_length_le (Nat.le_refl _)
 refine A3z (aq:=[.asl (A.length + 0) l.length,.i a,.i b]) rfl rfl rfl ?_
 refine s0<|qm rfl<|A1 (G9 rfl rfl) rfl<|qm rfl<|es (ra4 rfl rfl rfl rfl)<|C6<|wl (fun s=>[(0,.asl (A.length + 0) s.2.length),(1,.i a),(2,.i b),(6,.i s.1)]) (fun (_:Unit) s=>ar1 s.2 :: B) (B.length + 1) (fun r e s' H'=>PX 0 [] (A++(ar1 r :: B)) e s' H') () h rfl rfl (fun _ _=>rfl) (fun _=>rfl) rfl (fun s=>bdc (A7w (Nat.ble_eq_true_of_le (by omega))) (bdc A9 (bdc A9 (bdc A9 bdn)))) (fun _ s o hs=>?_) ?_
 ·unfold A97 at hs
  refine C1<|s0<|qm rfl<|qm rfl<|A1 (L8 rfl rfl) rfl<|es (ra5 rfl rfl rfl rfl rfl)<|wi hs rfl (fun hc hs=>?_) fun hc hs=>?_
  ·refine oB hs fun l1 hl1 hs=>?_
   refine C9<|C1<|C6<|s0<|qm rfl<|qm rfl<|es (ra5 rfl rfl rfl rfl rfl)<|C6<|wl (fun t=>[(0,.asl (A.length + 0) t.2.length),(1,.i a),(2,.i b),(6,.i s.1),(7,.i t.1)]) (fun (_:Unit) t=>ar1 t.2 :: B) (B.length + 1) (fun r e s' H'=>PX 2 [(0,.asl (A.length + 0) r.length),(1,.i a),(2,.i b),(6,.i s.1)] (A++(ar1 r :: B)) e s' H') () hl1 rfl rfl (fun _ _=>rfl) (fun _=>rfl) rfl (fun t=>bdc (A7w (Nat.ble_eq_true_of_le (by omega))) (bdc A9 (bdc A9 (bdc A9 (bdc A9 bdn))))) (fun _ t o' ht=>?_) ?_
   ·unfold A98 at ht
    refine oB ht fun g hg ht=>?_
    refine C1<|s0<|qm rfl<|qm rfl<|A1 (A8t rfl rfl) rfl<|qm rfl<|gp 11 30 (.b g) 19 rfl rfl (fun hb=>?_) (fun hb=>?_) ?_
    ·refine oB (bt hg hb) fun x hx hg=>oB hg fun y hy hg=>oB hg fun z hz hg=>?_
     obtain rfl:=os hg
     exact gT rfl hb<|qm rfl<|gT rfl hb<|qm rfl<|gT rfl hb<|A1 (A5u (f:=cI) rfl rfl rfl rfl hx) rfl<|gT rfl hb<|A1 (A65 (x:=.i x) rfl rfl (List.length_map _) (A52 hx) rfl) rfl<|gT rfl hb<|qm rfl<|gT rfl hb<|qm rfl<|gT rfl hb<|A1 (A1w rfl rfl) rfl<|gT rfl hb<|A1 (A5u (f:=cI) rfl rfl rfl rfl hy) rfl<|gT rfl hb<|A1 (A65 (x:=.i y) rfl rfl (List.length_map _) (A52 hy) rfl) rfl<|gT rfl hb<|C2 (rs:=[.b z]) rfl rfl (A4 rfl (A4 rfl B8)) ((A9o hz).frz)<|A1 (D8 rfl hb rfl) rfl<|ge 11 rfl rfl rfl
    ·obtain rfl:=os (bf hg hb)
     exact nT rfl hb rfl<|nT rfl hb rfl<|nT rfl hb rfl<|nT rfl hb rfl<|nT rfl hb rfl<|nT rfl hb rfl<|nT rfl hb rfl<|nT rfl hb rfl<|nT rfl hb rfl<|S8 (K8 rfl (by rw [hb]; rfl)) rfl<|A1 (D7 rfl hb rfl) rfl<|ge 11 rfl rfl rfl
    ·refine es (ra6 rfl rfl rfl rfl rfl rfl)<|wi ht rfl (fun hc2 ht=>?_) fun hc2 ht=>?_
     ·refine oB ht fun y hy ht=>oB ht fun x hx ht=>oB ht fun w hw ht=>?_
      refine C9<|C1<|C6<|r0<|qm rfl<|qm rfl<|qm rfl<|qm rfl<|A1 (A1w rfl rfl) rfl<|A1 (A5u (f:=cI) rfl rfl rfl rfl hy) rfl<|A1 (A65 (x:=.i y) rfl rfl (List.length_map _) (A52 hy) rfl) rfl<|qm rfl<|qm rfl<|A1 (A5u (f:=cI) rfl rfl rfl rfl hx) rfl<|A1 (A65 (x:=.i x) rfl rfl (List.length_map _) (A52 hx) rfl) rfl<|A1 (A5u (f:=cI) rfl rfl rfl rfl hx) rfl<|F8 (B6j (ds:=cI y) rfl rfl rfl rfl rfl (List.length_map _) (A52 hx) rfl rfl) rfl ?_
      rw [B6a]
      refine qm rfl<|qm rfl<|A1 (A1w rfl rfl) rfl<|A1 (A5u (f:=cI) (e:=A7p t.2 t.1 y) rfl rfl rfl (A13 _ _ _) hw) rfl<|F8 (B6j (ds:=cI x) rfl rfl rfl rfl rfl (by rw [List.length_map,A13]) (A52 hw) rfl rfl) rfl ?_
      rw [B6a]
      refine en (ra5 rfl rfl rfl rfl rfl)<|r0<|qm rfl<|A1 (A1w rfl rfl) rfl<|qm rfl<|en (ra5 rfl rfl rfl rfl rfl) ?_
      cases ht
      exact lnT () (htk _) (su5 (by simp only [A13]; rfl) rfl rfl rfl rfl)
     ·refine I5 ?_
      obtain rfl:=os ht
      exact lx rfl px (su4 rfl rfl rfl rfl)
   ·rintro e s' H' - ⟨rfl,rfl,rfl⟩
    refine r0<|qm rfl<|A1 (G9 rfl rfl) rfl<|qm rfl<|en (ra4 rfl rfl rfl rfl) ?_
    cases hs
    exact lnT () (htk _) (su4 rfl rfl rfl rfl)
  ·refine I5 ?_
   obtain rfl:=os hs
   exact lx rfl px (Sub.nil _)
 ·rintro e s' H' - ⟨rfl,rfl,rfl⟩
  show B2h _ _ _ _ .normal _ _
  exact B8n trivial B6 B9 B4 (List.take_of_length_le (by simp))
def C4s (a b:Int) (l:List Int):Option (List Int):=if (decide (w64 (b - a)≤12)) = true then B69 a b l else none
theorem C4t {c:Sc} {A B:A0} {a b k:Int} {l r:List Int} (h:C4s a b l = some r) :
  F1 tab c (A++(ar1 l :: B)) (.fn (.func 96) [] []) [.asl (A.length + 0) l.length,.i a,.i b,.i k] [] (A++(ar1 r :: B)):= by
 unfold C4s at h
 split at h
 ·next hc =>
  refine A3z (aq:=[.asl (A.length + 0) l.length,.i a,.i b,.i k]) rfl rfl rfl ?_
  refine s0<|qm rfl<|es (ra5 rfl rfl rfl rfl rfl)<|s0<|qm rfl<|es (ra6 rfl rfl rfl rfl rfl rfl)<|C6<|C3j (B.length + 1) rfl _ (fun S hS=>K9 (live:=[0,1,2,3,8,9]) rfl (by decide) (Sub.trans (su6 rfl rfl rfl rfl rfl rfl) hS))<|C6<|s0<|qm rfl<|qm rfl<|A1 (A1w rfl rfl) rfl<|qm rfl<|es (ra7 rfl rfl rfl rfl rfl rfl rfl)<|C1<|s0<|qm rfl<|A1 (B80 rfl rfl) rfl<|es (ra8 rfl rfl rfl rfl rfl rfl rfl rfl)<|N5 rfl hc<|s0<|qm rfl<|qm rfl<|qm rfl<|R8 (O4 rfl rfl (C3f h) rfl) rfl<|es .n<|D0 ?_
  refine .out rfl ?_
  show B2h _ _ _ _ .ret _ _
  exact B8n trivial B6 B9 B4 (List.take_of_length_le (by simp))
 ·cases h
def B7a (l:List Int):Option (List Int) :=
 (A2b (IntKind.u64.wrap (List.length l:Int))).bind fun _=>C4s 0 (List.length l:Int) l
theorem C4y {c:Sc} {A B:A0} {l r:List Int} (h:B7a l = some r) :
  F1 tab c (A++(ar1 l :: B)) (.fn (.func 67) [] []) [.asl (A.length + 0) l.length] [] (A++(ar1 r :: B)):= by
 unfold B7a at h
 refine oB h fun k hk h=>?_
 refine A3z (aq:=[.asl (A.length + 0) l.length]) rfl rfl rfl ?_
 refine s0<|qm rfl<|A1 (B09 (f:=cI) rfl rfl rfl) rfl<|qm rfl<|es (ra2 rfl rfl)<|r0<|qm rfl<|qm rfl<|qm rfl<|A1 (B07 rfl) rfl<|C2 (rs:=[.i k]) rfl rfl (A4 rfl B8) ((A8e hk).frz)<|R8 (O4 rfl rfl (C4t h) rfl) rfl<|en .n ?_
 show B2h _ _ _ _ .normal _ _
 exact B8n trivial B6 B9 B4 (List.take_of_length_le (by simp))
theorem C1c {a b:Int} {l r:List Int} (h:B69 a b l = some r):r.length = l.length:= by
 unfold B69 at h
 refine B3l (fun s=>s.2.length = l.length) (fun r=>r.length = l.length) (fun x y hx hy=>?_) (fun x r hx hr=>?_) rfl h
 ·unfold A97 at hy
  split at hy
  ·refine oB hy fun l1 hl1 hy=>?_
   cases hy
   refine B3l (fun s=>s.2.length = l.length) (fun r=>r.length = l.length) (fun x y hx hy=>?_) (fun x r hx hr=>?_) hx hl1
   ·unfold A98 at hy
    refine oB hy fun g _ hy=>?_
    split at hy
    ·refine oB hy fun _ _ hy=>oB hy fun _ _ hy=>oB hy fun _ _ hy=>?_
     cases hy
     simpa only [A13] using hx
    ·cases hy
   ·unfold A98 at hr
    refine oB hr fun g _ hr=>?_
    split at hr
    ·refine oB hr fun _ _ hr=>oB hr fun _ _ hr=>oB hr fun _ _ hr=>?_
     cases hr
    ·cases hr; exact hx
  ·cases hy
 ·unfold A97 at hr
  split at hr
  ·refine oB hr fun _ _ hr=>?_
   cases hr
  ·cases hr; exact hx
theorem C1d {l r:List Int} (h:B7a l = some r):r.length = l.length:= by
 unfold B7a C4s at h
 refine oB h fun _ _ h=>?_
 split at h
 ·exact C1c h
 ·cases h
end Ds
end
section
set_option maxRecDepth 100000
namespace Ds
open Go Am Go.Proofs.Ytdkflofgolehkaa.Cd
def B7y (t:DrRoom) (person:Int):Option ((Chg × dress_plan) × Int) :=
 (L2 t).bind fun x1 =>
 if (x1.2.2 != 0) = true then some (([],plan0),x1.2.2)
 else (loop (O3 t) (0,[])).bind fun ch =>
  (K1 0 (w64 ((List.length t.Persons:Int) - 1)) [person]).bind fun k =>
  if k = true then some (([],plan0),4)
  else (J1 ⟨t⟩).bind fun w=>(P4 t ch w).bind fun z =>
   if (!z.2) = true then some (([],plan0),9) else some ((ch,z.1),0)
def B7x (N:Nat) (t:DrRoom) (ch:Chg) (p:dress_plan):List AO:=[.cells (A7 t),.cells (A2 p),.cells (A7 t),.map (A44 ch),.cells (A03 t (N + 3)),.cells (A2 p)]
def EnQ (H:A0) (t:DrRoom) (r:(Chg × dress_plan) × Int) (e:Ex) (s:B1) (H1:A0):Prop :=
 (match e with | .exit _=>False | _=>True)∧∃ rs H2,results s H1 [.tmp 4,.cell 5 (some 6),.tmp 6] = some rs∧L9 H.length H1 rs = some (rs,H2) ∧
  ((r.2 != 0) = true∧rs = [.lit (.pointer none),.agg (A2 plan0),.i r.2]∧trunc H.length rs H2 = H∨r.2 = 0∧rs = [.ptr (H.length + 4) 0,.agg (A2 r.1.2),.i 0]∧trunc H.length rs H2 = H++B7x H.length t r.1.1 r.1.2)
theorem B4e {H:A0} {l:List AO} {s:B1} {t:DrRoom} {e:Int} {x:Chg × dress_plan} (he:(e != 0) = true) (h4:sget s 4 = some (.lit (.pointer none))) (h5:sget s 5 = some (.ptr (H.length + 1) 0)) (h6:sget s 6 = some (.i e)) (hl:l[1]? = some (.cells (A2 plan0))):EnQ H t (x,e) .ret s (H++l) :=
 ⟨trivial,_,_,B3 h4 (L7 (G1 (ds:=A2 plan0) h5 hl rfl rfl) (B3 h6 B6)),A8 rfl (A8 (W2 rfl) (A8 rfl B9)),.inl ⟨he,rfl,by rw [B3z (by rfl),List.append_nil]⟩⟩
theorem C1x {c:Sc} {H:A0} (hscv:O5 c H = true) {t:DrRoom} {person:Int} {r:(Chg × dress_plan) × Int} (h:B7y t person = some r) :
  (r.2 != 0) = true∧F1 tab c H (.fn (.func 64) [] []) [.agg (A7 t),.i person] [.lit (.pointer none),.agg (A2 plan0),.i r.2] H ∨
  r.2 = 0∧F1 tab c H (.fn (.func 64) [] []) [.agg (A7 t),.i person] [.ptr (H.length + 4) 0,.agg (A2 r.1.2),.i 0] (H++B7x H.length t r.1.1 r.1.2):= by
 have key:WP tab c64 (F9 0 [.agg (A7 t),.i person]) (H++[]) ⟨H.length,c.cur :: c.outer⟩ (EnQ H t r):= by
  unfold B7y at h
  refine oB h fun x1 hx1 h=>?_
  refine sg 0 rfl<|A1 (H8 (cs:=A7 t) rfl rfl rfl) rfl<|qm rfl<|A1 D9 rfl<|qm rfl<|es (ra3 rfl rfl rfl) ?_
  by_cases hc1:(x1.2.2 != 0) = true
  ·rw [if_pos hc1] at h
   obtain rfl:=os h
   refine s0<|A1 (C5 rfl rfl rfl) rfl<|R8 (R4 rfl rfl (A4 (E4 rfl) B8) (B0z hx1 hc1) rfl) rfl<|qm rfl<|A1 (A6 rfl rfl) rfl<|A1 (A6 rfl rfl) rfl<|qm rfl<|qm rfl<|es (ra5 rfl rfl rfl rfl rfl)<|C1<|C6<|s0<|qm rfl<|A1 (R1 rfl rfl) rfl<|qm rfl<|es (ra6 rfl rfl rfl rfl rfl rfl)<|N5 rfl hc1<|s0<|A1 (I4 (cs:=A2 plan0) rfl rfl) rfl<|qm rfl<|qm rfl<|F8 (C4 (ds:=A2 plan0) rfl rfl rfl rfl (C0 rfl) rfl) rfl<|qm rfl<|es (ra3 rfl rfl rfl)<|D0<|B4e hc1 rfl rfl rfl rfl
  ·rw [if_neg hc1] at h
   have hc1:(x1.2.2 != 0) = false:=Bool.eq_false_iff.2 hc1
   refine oB h fun ch hch h=>oB h fun k hk h=>?_
   have hlook:F1 tab ⟨H.length,c.cur :: c.outer⟩ (H++[.cells (A7 t),.cells (A2 plan0)]) (.fn (.func 52) [] []) [(.agg (A7 t))] [.ptr (H.length + 4) 0,.i 0] (H++[.cells (A7 t),.cells (A2 plan0),.cells (A7 t),.map (A44 ch),.cells (A03 t (H.length + 3))]):= by
    have:=B00 (c:=⟨H.length,c.cur :: c.outer⟩) (H:=H++[.cells (A7 t),.cells (A2 plan0)]) hx1 hc1 hch
    unfold B9p at this
    rw [List.length_append,List.append_assoc] at this
    exact this
   refine s0<|A1 (C5 rfl rfl rfl) rfl<|R8 (R4 rfl rfl (A4 (E4 rfl) B8) hlook rfl) rfl<|qm rfl<|A1 (A6 rfl rfl) rfl<|A1 (A6 rfl rfl) rfl<|qm rfl<|qm rfl<|es (ra5 rfl rfl rfl rfl rfl)<|C1<|C6<|s0<|qm rfl<|A1 (K3 (v:=(.b false)) rfl rfl rfl) rfl<|qm rfl<|es (ra6 rfl rfl rfl rfl rfl rfl)<|T2 rfl rfl<|s0<|A1 (D6 rfl) rfl<|A1 (D5 rfl rfl rfl) rfl<|A1 (E6 (f:=A3) rfl) rfl<|A1 (A1w rfl rfl) rfl<|qm rfl<|A1 (I2 (rows:=List.map cI [person]) rfl rfl (E0 (fun _=>rfl) _)) rfl<|C2 (rs:=[.b k]) rfl rfl (A4 rfl (A4 rfl (A4 rfl B8))) ((J0 hk).frz)<|qm rfl<|es (ra3 rfl rfl rfl)<|wi h rfl (fun hc2 h=>?_) fun hc2 h=>?_
   ·obtain rfl:=os h
    exact s0<|A1 (I4 (cs:=A2 plan0) rfl rfl) rfl<|qm rfl<|F8 (C4 (ds:=A2 plan0) rfl rfl rfl rfl (C0 rfl) rfl) rfl<|qm rfl<|es (ra3 rfl rfl rfl)<|D0<|B4e rfl rfl rfl rfl rfl
   refine oB h fun w hw h=>oB h fun z hz h=>?_
   refine C9<|sg 5 rfl<|qm rfl<|qm rfl<|C2 (rs:=[.i w]) rfl rfl (A4 rfl B8) ((J6 (a0:=⟨t⟩) (D2 rfl) hw).frz)<|C2 (rs:=[(.agg (A2 z.1)),.b z.2]) rfl rfl (A4 rfl (A4 rfl B8)) (A9s (t:=t) (ch:=ch) ⟨_,D2 rfl,W5 rfl⟩ (A2h hscv) hz)<|qm rfl<|A1 (A6 rfl rfl) rfl<|A1 (A6 rfl rfl) rfl<|A1 D9 rfl<|F8 (C4 (ds:=(A2 z.1)) rfl rfl rfl rfl (C0 rfl) rfl) rfl<|qm rfl<|es (ra4 rfl rfl rfl rfl)<|C1<|s0<|qm rfl<|A1 (A4m rfl) rfl<|es (ra4 rfl rfl rfl rfl)<|wi h rfl (fun hc3 h=>?_) fun hc3 h=>?_
   ·obtain rfl:=os h
    exact s0<|A1 (I4 (cs:=A2 plan0) rfl rfl) rfl<|qm rfl<|F8 (C4 (ds:=A2 plan0) rfl rfl rfl rfl (C0 rfl) rfl) rfl<|qm rfl<|es (ra3 rfl rfl rfl)<|D0<|B4e rfl rfl rfl rfl rfl
   ·obtain rfl:=os h
    refine C9<|s0<|qm rfl<|A1 (C5 rfl rfl rfl) rfl<|qm rfl<|F8 (C4 (ds:=(A2 z.1)) rfl rfl rfl rfl (C0 rfl) rfl) rfl<|qm rfl<|es (ra3 rfl rfl rfl)<|D0 ?_
    exact ⟨trivial,_,_,B3 rfl (L7 (G1 (ds:=A2 z.1) rfl rfl rfl rfl) (B3 rfl B6)),A8 rfl (A8 (W2 rfl) (A8 rfl B9)),.inr ⟨rfl,rfl,B17 B81⟩⟩
 rw [List.append_nil] at key
 obtain ⟨e,S',s',H2,h1,h2,h3,rs,H3,h4,h5,h6⟩:=key _ (Sub.refl _)
 have hrun:∀H',trunc H.length rs H3 = H'→F1 tab c H (.fn (.func 64) [] []) [.agg (A7 t),.i person] rs H':=fun H' hH =>
  F1.fn (af:=a64) (bd:=c64) (aq:=[.agg (A7 t),.i person]) (rs0:=rs) (rs1:=rs) (H1:=H3) (e:=e) (st':=⟨S',H2,⟨H.length,c.cur :: c.outer⟩⟩) rfl rfl rfl rfl rfl rfl h1 (by cases e <;> first | rfl | exact h3.elim) (L1 h2 h4) h5 rfl hH.symm
 rcases h6 with ⟨h6,rfl,h7⟩ | ⟨h6,rfl,h7⟩
 ·exact .inl ⟨h6,hrun _ h7⟩
 ·exact .inr ⟨h6,hrun _ h7⟩
theorem retq0 {H:A0} {s:B1} {rv:List ARes} {rs:List AV} {e:Ex} (h:RetQ H rv rs e s (H++[])):RetQ H rv rs e s H:= by rwa [List.append_nil] at h
theorem C2c {c:Sc} {A B:A0} {b:Nat} {l:List Int} {x r:Int} (hb:A.length = b) (h:N1 l x = some r):F2 tab c (A++(ar1 l :: B)) (.fn (.func 95) [] []) [.asl b l.length,.i x] [.i r]:= by
 subst hb
 unfold N1 at h
 have htk:∀x:AO,(x :: B).take (B.length + 1) = x :: B:=fun x=>List.take_of_length_le (Nat.le_refl _)
 refine B0d (aq:=[.asl A.length l.length,.i x]) rfl rfl rfl ?_
 refine s0<|qm rfl<|es (ra2 rfl rfl)<|C1<|s0<|qm rfl<|A1 (B09 (f:=cI) (j:=0) rfl rfl rfl) rfl<|qm rfl<|es (ra4 rfl rfl rfl rfl)<|C6<|oB h fun o6 ho6 h=>wl (fun s1=>[(0,(.asl (A.length + 0) l.length)),(1,.i x),(7,(.i (List.length l:Int))),(8,.i s1)]) (fun (q2:Unit) s1=>ar1 l :: B) (B.length + 1) (fun r e s' H'=>(match r with | (.inl v)=>e = .ret∧RetQ (A++(ar1 l :: B)) [.tmp 4] [.i v] e s' H' | (.inr v)=>PX 0 [] (A++(ar1 l :: B)) e s' H':Prop)) () ho6 rfl rfl (fun _ _=>rfl) (fun _=>rfl) rfl (fun s1=>(bdc (A7w (Nat.ble_eq_true_of_le (by omega))) (bdc A9 (bdc A9 (bdc A9 bdn))))) (fun q2 s1 ys1 hs1=>?_) ?_
 ·unfold R7 at hs1
  refine s0<|A1 (L8 rfl rfl) rfl<|es (ra5 rfl rfl rfl rfl rfl)<|C1<|wi hs1 rfl (fun hc3 hs1=>?_) fun hc3 hs1=>?_
  ·refine C9<|C1<|C6<|s0<|qm rfl<|qm rfl<|es (ra5 rfl rfl rfl rfl rfl)<|s0<|oB hs1 fun x4 hx4 hs1=>qm rfl<|qm rfl<|qm rfl<|A1 (A5u (f:=cI) rfl rfl rfl rfl hx4) rfl<|A1 (A65 (x:=.i x4) rfl rfl (List.length_map _) (A52 hx4) rfl) rfl<|A1 (J3 rfl rfl) rfl<|es (ra6 rfl rfl rfl rfl rfl rfl)<|wi hs1 rfl (fun hc5 hs1=>?_) fun hc5 hs1=>?_
   ·refine s0<|qm rfl<|qm rfl<|es (ra1 rfl)<|D0 ?_
    obtain rfl:=os hs1
    exact lx rfl (And.intro rfl (retq0 (retq trivial (B3 rfl B6) (A8 rfl B9) (A5 A9 B4)))) (Sub.refl _)
   ·refine C9<|r0<|A1 (G9 rfl rfl) rfl<|qm rfl<|en (ra4 rfl rfl rfl rfl) ?_
    cases hs1
    exact lnT () (htk _) (su4 rfl rfl rfl rfl)
  ·refine I5 ?_
   obtain rfl:=os hs1
   exact lx rfl px (.nil _)
 ·rcases o6 with vo6_0 | vo6_1
  ·rintro e s' H' - ⟨rfl,hret⟩
   cases h
   exact hret
  ·rintro e s' H' - ⟨rfl,rfl,rfl⟩
   refine s0<|qm rfl<|es (ra1 rfl)<|D0 ?_
   obtain rfl:=os h
   exact retq0 (retq trivial (B3 rfl B6) (A8 rfl B9) (A5 A9 B4))
theorem B5o {c:Sc} {A B:A0} {b:Nat} {l:List Int} {x:Int} {r:Bool} (hb:A.length = b) (h:I6 l x = some r):F2 tab c (A++(ar1 l :: B)) (.fn (.func 66) [] []) [.asl b l.length,.i x] [.b r]:= by
 unfold I6 at h
 refine oB h fun x1 hx1 h=>?_
 refine B0d (aq:=[.asl b l.length,.i x]) rfl rfl rfl ?_
 refine s0<|qm rfl<|es (ra2 rfl rfl)<|s0<|qm rfl<|qm rfl<|R8 (A1o (rs:=[.i x1]) rfl rfl ((C2c hb hx1).frz)) rfl<|A1 (A6d rfl rfl) rfl<|qm rfl<|es (ra1 rfl)<|D0 ?_
 obtain rfl:=os h
 exact retq0 (retq trivial (B3 rfl B6) (A8 rfl B9) (A5 A9 B4))
def C3k (person:Int) (best:dress_plan) (l:List dress_plan) (s:Int × List Int):Option ((Int × List Int) ⊕ List Int) :=
 if (decide (s.1 < (List.length l:Int))) = true then
  (idx l s.1).bind fun p=>(idx p.figures_ person).bind fun f =>
  (if (p.cost_ == best.cost_) = true then (I6 s.2 f).bind fun k=>some (!k) else some false).bind fun g =>
  if g = true then (app 8 s.2 [f]).bind fun q=>some (.inl (w64 (s.1 + 1),q))
  else some (.inl (w64 (s.1 + 1),s.2))
 else some (.inr s.2)
def A7y (t:DrRoom) (person:Int):Option (List Int × Int) :=
 (B7y t person).bind fun r =>
 if (r.2 != 0) = true then some ([],r.2)
 else (J1 ⟨t⟩).bind fun w=>(T4 t r.1.1 w).bind fun l =>
  (loop (C3k person r.1.2 l) (0,[])).bind fun o=>(B7a o).bind fun q=>some (q,0)
def A8r (N:Nat) (t:DrRoom) (ch:Chg) (p:dress_plan) (s:List Int):List AO:=[.cells (A7 t),ar1 s,.cells (A2 p),.cells (A7 t),.cells (A2 p),.cells (A7 t),.map (A44 ch),.cells (A03 t (N + 6)),.cells (A2 p)]
theorem B4t {c:Sc} {H:A0} (hscv:O5 c H = true) {a0:DrRoom} {a1:Int} {r:List Int × Int} (h:A7y a0 a1 = some r) :
  T3 tab c H (.fn (.func 28) [] []) [(.agg (A7 a0)),.i a1] [(.seq 1 (List.map cI r.1)),.i r.2]:= by
 unfold A7y at h
 refine oB h fun x hx h=>?_
 refine cF rfl rfl<|sg 0 rfl<|A1 (H8 (cs:=A7 a0) rfl rfl rfl) rfl<|A1 B1a rfl<|qm rfl<|es (ra3 rfl rfl rfl)<|sg 2 rfl<|A1 (C5 rfl rfl rfl) rfl<|qm rfl ?_
 rcases C1x (c:=⟨H.length,c.cur :: c.outer⟩) (H:=H++[.cells (A7 a0),ar1 [],.dead]) (A2h hscv) hx with ⟨hc,hcall⟩ | ⟨hc,hcall⟩
 ·rw [if_pos hc] at h
  obtain rfl:=os h
  refine R8 (R4 rfl rfl (A4 (E4 rfl) (A4 rfl B8)) hcall rfl) rfl<|qm rfl<|A1 (A6 rfl rfl) rfl<|A1 (A6 rfl rfl) rfl<|A1 (A6 rfl rfl) rfl<|A1 D9 rfl<|qm rfl<|F8 (C4 (ds:=A2 plan0) rfl rfl rfl rfl (C0 rfl) rfl) rfl<|qm rfl<|es (ra5 rfl rfl rfl rfl rfl)<|C1<|s0<|qm rfl<|A1 (R1 rfl rfl) rfl<|es (ra6 rfl rfl rfl rfl rfl rfl)<|N5 rfl hc<|sg 3 rfl<|qm rfl<|A1 B1a rfl<|qm rfl<|es (ra2 rfl rfl)<|D0 ?_
  exact ⟨[.fresh 1 (List.map cI []),.i x.2],retq trivial (B3 rfl (B3 rfl B6)) (A8 (A50 rfl (List.length_map _)) (A8 rfl B9)) (A5 A2l (A5 A9 B4)),rfl⟩
 ·obtain ⟨⟨ch,best⟩,e⟩:=x
  dsimp only at hc
  subst hc
  rw [if_neg (by simp)] at h
  refine oB h fun w hw h=>oB h fun l hl h=>oB h fun o ho h=>oB h fun q hq h=>?_
  obtain rfl:=os h
  have hcall:F1 tab ⟨H.length,c.cur :: c.outer⟩ (H++[.cells (A7 a0),ar1 [],.dead]) (.fn (.func 64) [] []) [.agg (A7 a0),.i a1] [.ptr (H.length + 7) 0,.agg (A2 best),.i 0] (H++[.cells (A7 a0),ar1 [],.dead,.cells (A7 a0),.cells (A2 best),.cells (A7 a0),.map (A44 ch),.cells (A03 a0 (H.length + 6)),.cells (A2 best)]):= by
   unfold B7x at hcall
   rw [List.length_append,List.append_assoc] at hcall
   exact hcall
  have hH:∀s:List Int,H++A8r H.length a0 ch best s = (H++[.cells (A7 a0)])++(ar1 s :: (A8r H.length a0 ch best s).drop 2):=fun s=>by simp [A8r]
  have hA:(H++[AO.cells (A7 a0)]).length = H.length + 1:= by simp
  refine R8 (R4 rfl rfl (A4 (E4 rfl) (A4 rfl B8)) hcall rfl) rfl<|qm rfl<|A1 (A6 rfl rfl) rfl<|A1 (A6 rfl rfl) rfl<|A1 (A6 rfl rfl) rfl<|A1 D9 rfl<|qm rfl<|F8 (C4 (ds:=A2 best) rfl rfl rfl rfl (C0 rfl) rfl) rfl<|qm rfl<|es (ra5 rfl rfl rfl rfl rfl)<|C1<|s0<|qm rfl<|A1 (K3 (v:=(.b false)) rfl rfl rfl) rfl<|es (ra6 rfl rfl rfl rfl rfl rfl)<|T2 rfl rfl<|C9<|C1<|s0<|qm rfl<|qm rfl<|C2 (rs:=[.i w]) rfl rfl (A4 rfl B8) ((J6 (a0:=⟨a0⟩) (D2 rfl) hw).frz)<|C2 (rs:=[.seq 6 (l.map A2)]) rfl rfl (A4 rfl (A4 rfl B8)) (B4y (t:=a0) (ch:=ch) ⟨_,D2 rfl,W5 rfl⟩ (A2h hscv) hl)<|A1 (E6 (f:=A2) rfl) rfl<|qm rfl<|es (ra6 rfl rfl rfl rfl rfl rfl)<|C6<|wl (fun s=>[(1,.i a1),(4,.asl (H.length + 1) s.2.length),(7,.ptr (H.length + 2) 0),(24,.seq 6 (l.map A2)),(25,.i (List.length l:Int)),(26,.i s.1)]) (fun (_:Unit) s=>A8r H.length a0 ch best s.2) 9 (fun r e s' H'=>PX 0 [(4,.asl (H.length + 1) r.length)] (H++A8r H.length a0 ch best r) e s' H') () ho rfl rfl (fun _ _=>rfl) (fun _=>rfl) rfl (fun s=>bdc A9 (bdc (A7w rfl) (bdc (F3 rfl) (bdc G3 (bdc A9 (bdc A9 bdn)))))) (fun _ s o hs=>?_) ?_
  ·unfold C3k at hs
   refine s0<|A1 (L8 rfl rfl) rfl<|es (ra7 rfl rfl rfl rfl rfl rfl rfl)<|C1<|wi hs rfl (fun hc hs=>?_) fun hc hs=>?_
   ·refine oB hs fun p hp hs=>oB hs fun f hf hs=>oB hs fun g hg hs=>?_
    refine C9<|C1<|C6<|sg 9 rfl<|A1 (L4 (f:=A2) rfl rfl hp) rfl<|A1 (Q0 rfl rfl) rfl<|A1 D9 rfl<|F8 (C4 (ds:=A2 p) rfl rfl rfl rfl (C0 rfl) rfl) rfl<|es (ra7 rfl rfl rfl rfl rfl rfl rfl)<|s0<|A1 (D6 rfl) rfl<|A1 (D5 rfl rfl rfl) rfl<|qm rfl<|A1 (L4 (f:=cI) rfl rfl hf) rfl<|A1 (S6 rfl rfl) rfl<|qm rfl<|es (ra8 rfl rfl rfl rfl rfl rfl rfl rfl)<|s0<|A1 (D6 rfl) rfl<|A1 (D5 (x:=.i p.cost_) rfl rfl rfl) rfl<|A1 (D6 rfl) rfl<|A1 (D5 (x:=.i best.cost_) rfl rfl rfl) rfl<|A1 (J3 rfl rfl) rfl<|qm rfl<|gp 5 45 (.b g) 40 rfl rfl (fun hb=>?_) (fun hb=>?_) ?_
    ·refine oB (bt hg hb) fun k hk hg=>?_
     obtain rfl:=os hg
     have hcon:T3 tab ⟨H.length + 9,(⟨H.length,c.cur :: c.outer⟩:Sc).cur :: (⟨H.length,c.cur :: c.outer⟩:Sc).outer⟩ (H++(A8r H.length a0 ch best s.2++[.cells (A2 p)])) (.fn (.func 66) [] []) [.asl (H.length + 1) s.2.length,.i f] [.b k]:= by
      have:=(B5o (c:=⟨H.length + 9,(⟨H.length,c.cur :: c.outer⟩:Sc).cur :: (⟨H.length,c.cur :: c.outer⟩:Sc).outer⟩) (B:=(A8r H.length a0 ch best s.2).drop 2++[.cells (A2 p)]) hA hk).frz
      rw [show (H++[AO.cells (A7 a0)])++(ar1 s.2 :: ((A8r H.length a0 ch best s.2).drop 2++[.cells (A2 p)])) = H++(A8r H.length a0 ch best s.2++[.cells (A2 p)]) by simp [A8r]] at this
      exact this
     exact gT rfl hb<|qm rfl<|gT rfl hb<|qm rfl<|gT rfl hb<|R8 (A1o (rs:=[.b k]) rfl rfl hcon) rfl<|gT rfl hb<|A1 (A4m rfl) rfl<|A1 (D8 rfl hb rfl) rfl<|ge 5 rfl rfl rfl
    ·obtain rfl:=os (bf hg hb)
     exact nT rfl hb rfl<|nT rfl hb rfl<|S8 (K8 rfl (by rw [hb]; rfl)) rfl<|nT rfl hb rfl<|A1 (D7 rfl hb rfl) rfl<|ge 5 rfl rfl rfl
    refine es (ra8 rfl rfl rfl rfl rfl rfl rfl rfl)<|wi hs rfl (fun hc2 hs=>?_) fun hc2 hs=>?_
    ·refine oB hs fun q hq hs=>?_
     refine r0<|qm rfl<|qm rfl<|A1 (I2 (rows:=List.map cI [f]) rfl rfl (E0 (fun _=>rfl) _)) rfl<|R8 (B06 (f:=cI) rfl rfl rfl rfl A4i (fun _=>rfl) hq) rfl<|qm rfl<|en (ra6 rfl rfl rfl rfl rfl rfl)<|r0<|A1 (G9 rfl rfl) rfl<|qm rfl<|en (ra6 rfl rfl rfl rfl rfl rfl) ?_
     cases hs
     exact lnT () rfl (su6 rfl rfl rfl rfl rfl rfl)
    ·refine C9<|r0<|A1 (G9 rfl rfl) rfl<|qm rfl<|en (ra6 rfl rfl rfl rfl rfl rfl) ?_
     cases hs
     exact lnT () rfl (su6 rfl rfl rfl rfl rfl rfl)
   ·refine I5 ?_
    obtain rfl:=os hs
    exact lx rfl px (su1 rfl)
  ·rintro e s' H' - ⟨rfl,rfl,rfl⟩
   have hsort:F1 tab ⟨H.length,c.cur :: c.outer⟩ (H++A8r H.length a0 ch best o) (.fn (.func 67) [] []) [.asl (H.length + 1) o.length] [] (H++A8r H.length a0 ch best q):= by
    have:=C4y (c:=⟨H.length,c.cur :: c.outer⟩) (A:=H++[AO.cells (A7 a0)]) (B:=(A8r H.length a0 ch best o).drop 2) hq
    rw [hA] at this
    rw [hH o,hH q]
    exact this
   refine s0<|qm rfl<|R8 (O4 rfl rfl hsort rfl) rfl<|es (ra1 rfl)<|s0<|qm rfl<|qm rfl<|qm rfl<|es (ra2 rfl rfl)<|D0 ?_
   exact ⟨[.fresh 1 (List.map cI q),.i 0],retq trivial (B3 rfl (B3 rfl B6)) (A8 (A50 rfl (by rw [List.length_map]; exact C1d hq)) (A8 rfl B9)) (A5 A2l (A5 A9 B4)),rfl⟩
end Ds
end
