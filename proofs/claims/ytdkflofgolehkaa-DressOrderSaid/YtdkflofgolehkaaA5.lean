/- Texts that the claim stands on, one behind another. -/
import Derived.Test.YtdkflofgolehkaaA4
import Derived.Test.YtdkflofgolehkaaChecked
import Derived.KernelRfl
set_option linter.unusedVariables false
set_option linter.unusedSimpArgs false
set_option linter.unnecessarySimpa false
section
set_option maxRecDepth 100000
set_option maxHeartbeats 0
namespace Go.Proofs.Ytdkflofgolehkaa
open Go Am Go.Proofs
theorem m3:C0 Try.prog Try.f3 Cd.a3 = true:= by kernel_rfl
theorem m4:C0 Try.prog Try.f4 Cd.a4 = true:= by kernel_rfl
theorem m5:C0 Try.prog Try.f5 Cd.a5 = true:= by kernel_rfl
theorem m15:C0 Try.prog Try.f15 Cd.a15 = true:= by kernel_rfl
theorem m16:C0 Try.prog Try.f16 Cd.a16 = true:= by kernel_rfl
theorem m17:C0 Try.prog Try.f17 Cd.a17 = true:= by kernel_rfl
theorem m18:C0 Try.prog Try.f18 Cd.a18 = true:= by kernel_rfl
theorem m19:C0 Try.prog Try.f19 Cd.a19 = true:= by kernel_rfl
theorem m20:C0 Try.prog Try.f20 Cd.a20 = true:= by kernel_rfl
theorem m21:C0 Try.prog Try.f21 Cd.a21 = true:= by kernel_rfl
theorem m22:C0 Try.prog Try.f22 Cd.a22 = true:= by kernel_rfl
theorem m23:C0 Try.prog Try.f23 Cd.a23 = true:= by kernel_rfl
theorem m24:C0 Try.prog Try.f24 Cd.a24 = true:= by kernel_rfl
theorem m25:C0 Try.prog Try.f25 Cd.a25 = true:= by kernel_rfl
theorem m26:C0 Try.prog Try.f26 Cd.a26 = true:= by kernel_rfl
theorem m27:C0 Try.prog Try.f27 Cd.a27 = true:= by kernel_rfl
theorem m28:C0 Try.prog Try.f28 Cd.a28 = true:= by kernel_rfl
theorem m29:C0 Try.prog Try.f29 Cd.a29 = true:= by kernel_rfl
theorem m30:C0 Try.prog Try.f30 Cd.a30 = true:= by kernel_rfl
theorem m31:C0 Try.prog Try.f31 Cd.a31 = true:= by kernel_rfl
theorem m32:C0 Try.prog Try.f32 Cd.a32 = true:= by kernel_rfl
theorem m34:C0 Try.prog Try.f34 Cd.a34 = true:= by kernel_rfl
theorem m36:C0 Try.prog Try.f36 Cd.a36 = true:= by kernel_rfl
theorem m37:C0 Try.prog Try.f37 Cd.a37 = true:= by kernel_rfl
theorem m39:C0 Try.prog Try.f39 Cd.a39 = true:= by kernel_rfl
theorem m40:C0 Try.prog Try.f40 Cd.a40 = true:= by kernel_rfl
theorem m41:C0 Try.prog Try.f41 Cd.a41 = true:= by kernel_rfl
theorem m43:C0 Try.prog Try.f43 Cd.a43 = true:= by kernel_rfl
theorem m44:C0 Try.prog Try.f44 Cd.a44 = true:= by kernel_rfl
theorem m48:C0 Try.prog Try.f48 Cd.a48 = true:= by kernel_rfl
theorem m49:C0 Try.prog Try.f49 Cd.a49 = true:= by kernel_rfl
theorem m50:C0 Try.prog Try.f50 Cd.a50 = true:= by kernel_rfl
theorem m51:C0 Try.prog Try.f51 Cd.a51 = true:= by kernel_rfl
theorem m52:C0 Try.prog Try.f52 Cd.a52 = true:= by kernel_rfl
theorem m53:C0 Try.prog Try.f53 Cd.a53 = true:= by kernel_rfl
theorem m54:C0 Try.prog Try.f54 Cd.a54 = true:= by kernel_rfl
theorem m55:C0 Try.prog Try.f55 Cd.a55 = true:= by kernel_rfl
theorem m56:C0 Try.prog Try.f56 Cd.a56 = true:= by kernel_rfl
theorem m57:C0 Try.prog Try.f57 Cd.a57 = true:= by kernel_rfl
theorem m58:C0 Try.prog Try.f58 Cd.a58 = true:= by kernel_rfl
theorem m59:C0 Try.prog Try.f59 Cd.a59 = true:= by kernel_rfl
theorem m60:C0 Try.prog Try.f60 Cd.a60 = true:= by kernel_rfl
theorem m61:C0 Try.prog Try.f61 Cd.a61 = true:= by kernel_rfl
theorem m62:C0 Try.prog Try.f62 Cd.a62 = true:= by kernel_rfl
theorem m63:C0 Try.prog Try.f63 Cd.a63 = true:= by kernel_rfl
theorem m64:C0 Try.prog Try.f64 Cd.a64 = true:= by kernel_rfl
theorem m65:C0 Try.prog Try.f65 Cd.a65 = true:= by kernel_rfl
theorem m66:C0 Try.prog Try.f66 Cd.a66 = true:= by kernel_rfl
theorem m67:C0 Try.prog Try.f67 Cd.a67 = true:= by kernel_rfl
theorem m68:C0 Try.prog Try.f68 Cd.a68 = true:= by kernel_rfl
theorem m69:C0 Try.prog Try.f69 Cd.a69 = true:= by kernel_rfl
theorem m71:C0 Try.prog Try.f71 Cd.a71 = true:= by kernel_rfl
theorem m72:C0 Try.prog Try.f72 Cd.a72 = true:= by kernel_rfl
theorem m73:C0 Try.prog Try.f73 Cd.a73 = true:= by kernel_rfl
theorem m74:C0 Try.prog Try.f74 Cd.a74 = true:= by kernel_rfl
theorem m75:C0 Try.prog Try.f75 Cd.a75 = true:= by kernel_rfl
theorem m76:C0 Try.prog Try.f76 Cd.a76 = true:= by kernel_rfl
theorem m77:C0 Try.prog Try.f77 Cd.a77 = true:= by kernel_rfl
theorem m78:C0 Try.prog Try.f78 Cd.a78 = true:= by kernel_rfl
theorem m79:C0 Try.prog Try.f79 Cd.a79 = true:= by kernel_rfl
theorem m80:C0 Try.prog Try.f80 Cd.a80 = true:= by kernel_rfl
theorem m81:C0 Try.prog Try.f81 Cd.a81 = true:= by kernel_rfl
theorem m82:C0 Try.prog Try.f82 Cd.a82 = true:= by kernel_rfl
theorem m83:C0 Try.prog Try.f83 Cd.a83 = true:= by kernel_rfl
theorem m84:C0 Try.prog Try.f84 Cd.a84 = true:= by kernel_rfl
theorem m85:C0 Try.prog Try.f85 Cd.a85 = true:= by kernel_rfl
theorem m86:C0 Try.prog Try.f86 Cd.a86 = true:= by kernel_rfl
theorem m87:C0 Try.prog Try.f87 Cd.a87 = true:= by kernel_rfl
theorem m88:C0 Try.prog Try.f88 Cd.a88 = true:= by kernel_rfl
theorem m89:C0 Try.prog Try.f89 Cd.a89 = true:= by kernel_rfl
theorem m90:C0 Try.prog Try.f90 Cd.a90 = true:= by kernel_rfl
theorem m91:C0 Try.prog Try.f91 Cd.a91 = true:= by kernel_rfl
theorem m92:C0 Try.prog Try.f92 Cd.a92 = true:= by kernel_rfl
theorem m93:C0 Try.prog Try.f93 Cd.a93 = true:= by kernel_rfl
theorem m94:C0 Try.prog Try.f94 Cd.a94 = true:= by kernel_rfl
theorem m95:C0 Try.prog Try.f95 Cd.a95 = true:= by kernel_rfl
theorem m96:C0 Try.prog Try.f96 Cd.a96 = true:= by kernel_rfl
theorem m97:C0 Try.prog Try.f97 Cd.a97 = true:= by kernel_rfl
theorem m98:C0 Try.prog Try.f98 Cd.a98 = true:= by kernel_rfl
theorem m99:C0 Try.prog Try.f99 Cd.a99 = true:= by kernel_rfl
theorem m100:C0 Try.prog Try.f100 Cd.a100 = true:= by kernel_rfl
theorem m101:C0 Try.prog Try.f101 Cd.a101 = true:= by kernel_rfl
theorem m102:C0 Try.prog Try.f102 Cd.a102 = true:= by kernel_rfl
theorem m103:C0 Try.prog Try.f103 Cd.a103 = true:= by kernel_rfl
theorem m104:C0 Try.prog Try.f104 Cd.a104 = true:= by kernel_rfl
theorem m105:C0 Try.prog Try.f105 Cd.a105 = true:= by kernel_rfl
theorem m106:C0 Try.prog Try.f106 Cd.a106 = true:= by kernel_rfl
theorem m107:C0 Try.prog Try.f107 Cd.a107 = true:= by kernel_rfl
theorem m108:C0 Try.prog Try.f108 Cd.a108 = true:= by kernel_rfl
theorem m109:C0 Try.prog Try.f109 Cd.a109 = true:= by kernel_rfl
theorem m110:C0 Try.prog Try.f110 Cd.a110 = true:= by kernel_rfl
theorem m111:C0 Try.prog Try.f111 Cd.a111 = true:= by kernel_rfl
theorem m112:C0 Try.prog Try.f112 Cd.a112 = true:= by kernel_rfl
theorem m113:C0 Try.prog Try.f113 Cd.a113 = true:= by kernel_rfl
theorem m114:C0 Try.prog Try.f114 Cd.a114 = true:= by kernel_rfl
theorem m115:C0 Try.prog Try.f115 Cd.a115 = true:= by kernel_rfl
theorem m116:C0 Try.prog Try.f116 Cd.a116 = true:= by kernel_rfl
theorem m117:C0 Try.prog Try.f117 Cd.a117 = true:= by kernel_rfl
theorem m118:C0 Try.prog Try.f118 Cd.a118 = true:= by kernel_rfl
theorem m119:C0 Try.prog Try.f119 Cd.a119 = true:= by kernel_rfl
theorem m120:C0 Try.prog Try.f120 Cd.a120 = true:= by kernel_rfl
theorem m121:C0 Try.prog Try.f121 Cd.a121 = true:= by kernel_rfl
theorem m122:C0 Try.prog Try.f122 Cd.a122 = true:= by kernel_rfl
theorem m123:C0 Try.prog Try.f123 Cd.a123 = true:= by kernel_rfl
theorem C92:C0j Try.prog Cd.tab:= by
 intro i af h
 unfold Cd.tab at h
 split at h
 ·cases h; exact ⟨Try.f3,Try.func3,m3⟩
 ·cases h; exact ⟨Try.f4,Try.func4,m4⟩
 ·cases h; exact ⟨Try.f5,Try.func5,m5⟩
 ·cases h; exact ⟨Try.f15,Try.func15,m15⟩
 ·cases h; exact ⟨Try.f16,Try.func16,m16⟩
 ·cases h; exact ⟨Try.f17,Try.func17,m17⟩
 ·cases h; exact ⟨Try.f18,Try.func18,m18⟩
 ·cases h; exact ⟨Try.f19,Try.func19,m19⟩
 ·cases h; exact ⟨Try.f20,Try.func20,m20⟩
 ·cases h; exact ⟨Try.f21,Try.func21,m21⟩
 ·cases h; exact ⟨Try.f22,Try.func22,m22⟩
 ·cases h; exact ⟨Try.f23,Try.func23,m23⟩
 ·cases h; exact ⟨Try.f24,Try.func24,m24⟩
 ·cases h; exact ⟨Try.f25,Try.func25,m25⟩
 ·cases h; exact ⟨Try.f26,Try.func26,m26⟩
 ·cases h; exact ⟨Try.f27,Try.func27,m27⟩
 ·cases h; exact ⟨Try.f28,Try.func28,m28⟩
 ·cases h; exact ⟨Try.f29,Try.func29,m29⟩
 ·cases h; exact ⟨Try.f30,Try.func30,m30⟩
 ·cases h; exact ⟨Try.f31,Try.func31,m31⟩
 ·cases h; exact ⟨Try.f32,Try.func32,m32⟩
 ·cases h; exact ⟨Try.f34,Try.func34,m34⟩
 ·cases h; exact ⟨Try.f36,Try.func36,m36⟩
 ·cases h; exact ⟨Try.f37,Try.func37,m37⟩
 ·cases h; exact ⟨Try.f39,Try.func39,m39⟩
 ·cases h; exact ⟨Try.f40,Try.func40,m40⟩
 ·cases h; exact ⟨Try.f41,Try.func41,m41⟩
 ·cases h; exact ⟨Try.f43,Try.func43,m43⟩
 ·cases h; exact ⟨Try.f44,Try.func44,m44⟩
 ·cases h; exact ⟨Try.f48,Try.func48,m48⟩
 ·cases h; exact ⟨Try.f49,Try.func49,m49⟩
 ·cases h; exact ⟨Try.f50,Try.func50,m50⟩
 ·cases h; exact ⟨Try.f51,Try.func51,m51⟩
 ·cases h; exact ⟨Try.f52,Try.func52,m52⟩
 ·cases h; exact ⟨Try.f53,Try.func53,m53⟩
 ·cases h; exact ⟨Try.f54,Try.func54,m54⟩
 ·cases h; exact ⟨Try.f55,Try.func55,m55⟩
 ·cases h; exact ⟨Try.f56,Try.func56,m56⟩
 ·cases h; exact ⟨Try.f57,Try.func57,m57⟩
 ·cases h; exact ⟨Try.f58,Try.func58,m58⟩
 ·cases h; exact ⟨Try.f59,Try.func59,m59⟩
 ·cases h; exact ⟨Try.f60,Try.func60,m60⟩
 ·cases h; exact ⟨Try.f61,Try.func61,m61⟩
 ·cases h; exact ⟨Try.f62,Try.func62,m62⟩
 ·cases h; exact ⟨Try.f63,Try.func63,m63⟩
 ·cases h; exact ⟨Try.f64,Try.func64,m64⟩
 ·cases h; exact ⟨Try.f65,Try.func65,m65⟩
 ·cases h; exact ⟨Try.f66,Try.func66,m66⟩
 ·cases h; exact ⟨Try.f67,Try.func67,m67⟩
 ·cases h; exact ⟨Try.f68,Try.func68,m68⟩
 ·cases h; exact ⟨Try.f69,Try.func69,m69⟩
 ·cases h; exact ⟨Try.f71,Try.func71,m71⟩
 ·cases h; exact ⟨Try.f72,Try.func72,m72⟩
 ·cases h; exact ⟨Try.f73,Try.func73,m73⟩
 ·cases h; exact ⟨Try.f74,Try.func74,m74⟩
 ·cases h; exact ⟨Try.f75,Try.func75,m75⟩
 ·cases h; exact ⟨Try.f76,Try.func76,m76⟩
 ·cases h; exact ⟨Try.f77,Try.func77,m77⟩
 ·cases h; exact ⟨Try.f78,Try.func78,m78⟩
 ·cases h; exact ⟨Try.f79,Try.func79,m79⟩
 ·cases h; exact ⟨Try.f80,Try.func80,m80⟩
 ·cases h; exact ⟨Try.f81,Try.func81,m81⟩
 ·cases h; exact ⟨Try.f82,Try.func82,m82⟩
 ·cases h; exact ⟨Try.f83,Try.func83,m83⟩
 ·cases h; exact ⟨Try.f84,Try.func84,m84⟩
 ·cases h; exact ⟨Try.f85,Try.func85,m85⟩
 ·cases h; exact ⟨Try.f86,Try.func86,m86⟩
 ·cases h; exact ⟨Try.f87,Try.func87,m87⟩
 ·cases h; exact ⟨Try.f88,Try.func88,m88⟩
 ·cases h; exact ⟨Try.f89,Try.func89,m89⟩
 ·cases h; exact ⟨Try.f90,Try.func90,m90⟩
 ·cases h; exact ⟨Try.f91,Try.func91,m91⟩
 ·cases h; exact ⟨Try.f92,Try.func92,m92⟩
 ·cases h; exact ⟨Try.f93,Try.func93,m93⟩
 ·cases h; exact ⟨Try.f94,Try.func94,m94⟩
 ·cases h; exact ⟨Try.f95,Try.func95,m95⟩
 ·cases h; exact ⟨Try.f96,Try.func96,m96⟩
 ·cases h; exact ⟨Try.f97,Try.func97,m97⟩
 ·cases h; exact ⟨Try.f98,Try.func98,m98⟩
 ·cases h; exact ⟨Try.f99,Try.func99,m99⟩
 ·cases h; exact ⟨Try.f100,Try.func100,m100⟩
 ·cases h; exact ⟨Try.f101,Try.func101,m101⟩
 ·cases h; exact ⟨Try.f102,Try.func102,m102⟩
 ·cases h; exact ⟨Try.f103,Try.func103,m103⟩
 ·cases h; exact ⟨Try.f104,Try.func104,m104⟩
 ·cases h; exact ⟨Try.f105,Try.func105,m105⟩
 ·cases h; exact ⟨Try.f106,Try.func106,m106⟩
 ·cases h; exact ⟨Try.f107,Try.func107,m107⟩
 ·cases h; exact ⟨Try.f108,Try.func108,m108⟩
 ·cases h; exact ⟨Try.f109,Try.func109,m109⟩
 ·cases h; exact ⟨Try.f110,Try.func110,m110⟩
 ·cases h; exact ⟨Try.f111,Try.func111,m111⟩
 ·cases h; exact ⟨Try.f112,Try.func112,m112⟩
 ·cases h; exact ⟨Try.f113,Try.func113,m113⟩
 ·cases h; exact ⟨Try.f114,Try.func114,m114⟩
 ·cases h; exact ⟨Try.f115,Try.func115,m115⟩
 ·cases h; exact ⟨Try.f116,Try.func116,m116⟩
 ·cases h; exact ⟨Try.f117,Try.func117,m117⟩
 ·cases h; exact ⟨Try.f118,Try.func118,m118⟩
 ·cases h; exact ⟨Try.f119,Try.func119,m119⟩
 ·cases h; exact ⟨Try.f120,Try.func120,m120⟩
 ·cases h; exact ⟨Try.f121,Try.func121,m121⟩
 ·cases h; exact ⟨Try.f122,Try.func122,m122⟩
 ·cases h; exact ⟨Try.f123,Try.func123,m123⟩
 ·cases h
end Go.Proofs.Ytdkflofgolehkaa
end
section
set_option maxRecDepth 100000
set_option maxHeartbeats 0
namespace Ds
open Go Am Go.Proofs.Ytdkflofgolehkaa.Cd
structure DrLook where
 mk ::
 (Name:ByteArray)
 (Looks:(List Int))
 (Hair:Int)
 deriving DecidableEq
def A6 (x:DrLook):List AV:=[.s x.Name,(.seq 1 (List.map cI x.Looks)),.i x.Hair]
structure DrRoom where
 mk ::
 (Costs:(List Int))
 (Ounces:(List Int))
 (Figures:(List DrLook))
 (Persons:(List DrLook))
 deriving DecidableEq
def A3 (x:DrRoom):List AV:=[(.seq 1 (List.map cI x.Costs)),(.seq 1 (List.map cI x.Ounces)),(.seq 3 (List.map A6 x.Figures)),(.seq 3 (List.map A6 x.Persons))]
structure dress_pair where
 mk ::
 (figure_:Int)
 (person_:Int)
 deriving DecidableEq
def D3 (x:dress_pair):List AV:=[.i x.figure_,.i x.person_]
structure dress_change where
 mk ::
 (cost_:Int)
 (kinds_:Int)
 (hair_:(Ar4 Int))
 deriving DecidableEq
def B7 (x:dress_change):List AV:=[.i x.cost_,.i x.kinds_,.i x.hair_.x0,.i x.hair_.x1,.i x.hair_.x2,.i x.hair_.x3]
structure dress_room where
 mk ::
 (DrRoom:DrRoom)
 deriving DecidableEq
structure dress_plan where
 mk ::
 (figures_:(List Int))
 (cost_:Int)
 (left_:(Ar4 Int))
 deriving DecidableEq
def A9 (x:dress_plan):List AV:=[(.seq 1 (List.map cI x.figures_)),.i x.cost_,.i x.left_.x0,.i x.left_.x1,.i x.left_.x2,.i x.left_.x3]
structure law09_More where
 mk ::
 (Ounces:Int)
 (Further:DrLook)
 (Person:Int)
 (Kind:Int)
 deriving DecidableEq
structure dress_order where
 mk ::
 deriving DecidableEq
theorem R0:KeyOk (κ:=dress_pair) true [0,0] (fun x=>.agg (D3 x)) D3:=⟨fun _=>rfl,fun _=>rfl,fun a b=>by
 obtain ⟨a1,a2⟩:=a
 obtain ⟨b1,b2⟩:=b
 simp only [D3,C69,dress_pair.mk.injEq,Bool.decide_and]
 generalize decide (a1 = b1) = p
 generalize decide (a2 = b2) = q
 cases p <;> cases q <;> rfl⟩
def L8 (a0:Int) (a1:Int) (a2:Int):Option Bool :=
 some ((decide (a0 ≥ a1)) && (decide (a0≤a2)))
theorem O2 {c:Sc} {H:A1} {a0:Int} {a1:Int} {a2:Int} {r:Bool} (h:L8 a0 a1 a2 = some r) :
  F0 tab c H (.fn (.func 54) [] []) [.i a0,.i a1,.i a2] [.b r]:= by
 unfold L8 at h
 refine cE rfl rfl<|s0<|qm rfl<|es (ra3 rfl rfl rfl)<|s0<|qm rfl<|qm rfl<|A0 (A66 rfl rfl) rfl<|qm rfl<|gp 4 14 (.b ((decide (a0 ≥ a1)) && (decide (a0≤a2)))) 10 rfl rfl (fun hg1=>?_) (fun hg1=>?_) ?_
 ·exact gT rfl hg1<|qm rfl<|gT rfl hg1<|qm rfl<|gT rfl hg1<|A0 (C0k rfl rfl) rfl<|A0 (C7 rfl hg1 rfl) rfl<|ge 4 (by rw [hg1]; rfl) rfl rfl
 ·exact nT rfl hg1 rfl<|nT rfl hg1 rfl<|nT rfl hg1 rfl<|A0 (C6 rfl hg1 rfl) rfl<|ge 4 (by rw [hg1]; rfl) rfl rfl
 refine qm rfl<|es (ra1 rfl)<|C4 ?_
 obtain rfl:=os h
 exact retq trivial (B1 rfl B8) (A7 rfl B9) (A4 A8 B2)
def Y6 (a0:(List Int)) (a2:Int) (s3:Int):Option (Int ⊕ ((Int × Int) ⊕ Unit)) :=
 if (decide (s3 < (List.length a0:Int))) = true then
  (idx a0 s3).bind fun x6 =>
  (L8 x6 0 a2).bind fun x7 =>
  if (!x7) = true then
  some (.inr (.inl (s3,7)))
  else
  some (.inl (w64 (s3 + 1)))
 else
  some (.inr (.inr ()))
def A0p (a0:(List Int)) (a1:Int) (a2:Int):Option (Int × Int) :=
 (L8 (List.length a0:Int) 1 a1).bind fun x1 =>
 if (!x1) = true then
  some (0,3)
 else
  (loop (Y6 a0 a2) 0).bind fun (o9:((Int × Int) ⊕ Unit)) =>
  match o9 with
  | (.inl vo9_0) =>
  some vo9_0
  | (.inr vo9_1) =>
  some (0,0)
theorem A7k {c:Sc} {H:A1} {a0:(List Int)} {a1:Int} {a2:Int} {r:(Int × Int)} (h:A0p a0 a1 a2 = some r) :
  F0 tab c H (.fn (.func 50) [] []) [(.seq 1 (List.map cI a0)),.i a1,.i a2] [.i r.1,.i r.2]:= by
 unfold A0p at h
 refine cE rfl rfl<|s0<|qm rfl<|qm rfl<|es (ra3 rfl rfl rfl)<|B6<|s0<|oB h fun x1 hx1 h=>qm rfl<|A0 (D4 (f:=cI) rfl) rfl<|qm rfl<|B4 (rs:=[.b x1]) rfl rfl (A2 rfl (A2 rfl (A2 rfl B5))) ((O2 hx1).frz)<|A0 (S7 rfl) rfl<|es (ra3 rfl rfl rfl)<|wi h rfl (fun hc2 h=>?_) fun hc2 h=>?_
 ·refine s0<|qm rfl<|qm rfl<|es (ra2 rfl rfl)<|C4 ?_
  obtain rfl:=os h
  exact retq trivial (B1 rfl (B1 rfl B8)) (A7 rfl (A7 rfl B9)) (A4 A8 (A4 A8 B2))
 ·refine C1<|B6<|s0<|qm rfl<|es (ra3 rfl rfl rfl)<|C3<|oB h fun o9 ho9 h=>wl (fun s3=>[(0,(.seq 1 (List.map cI a0))),(2,.i a2),(8,.i s3)]) (fun (q4:Unit) s3=>[]) 0 (fun r e s' H'=>(match r with | (.inl v)=>e = .ret∧RetQ H [.tmp 6,.tmp 7] [.i v.1,.i v.2] e s' H' | (.inr v)=>PX 0 [] (H++[]) e s' H':Prop)) () ho9 rfl rfl (fun _ _=>rfl) (fun _=>rfl) rfl (fun s3=>(bdc E6 (bdc A8 (bdc A8 bdn)))) (fun q4 s3 ys3 hs3=>?_) ?_
  ·unfold Y6 at hs3
   refine B6<|s0<|qm rfl<|qm rfl<|A0 (D4 (f:=cI) rfl) rfl<|A0 (G3 rfl rfl) rfl<|es (ra4 rfl rfl rfl rfl)<|wi hs3 rfl (fun hc5 hs3=>?_) fun hc5 hs3=>?_
   ·refine C1<|B6<|C3<|s0<|oB hs3 fun x6 hx6 hs3=>oB hs3 fun x7 hx7 hs3=>qm rfl<|qm rfl<|A0 (E3 (f:=cI) rfl rfl hx6) rfl<|A0 (E9 rfl rfl) rfl<|qm rfl<|B4 (rs:=[.b x7]) rfl rfl (A2 rfl (A2 rfl (A2 rfl B5))) ((O2 hx7).frz)<|A0 (S7 rfl) rfl<|es (ra4 rfl rfl rfl rfl)<|wi hs3 rfl (fun hc8 hs3=>?_) fun hc8 hs3=>?_
    ·refine s0<|qm rfl<|qm rfl<|qm rfl<|es (ra2 rfl rfl)<|C4 ?_
     obtain rfl:=os hs3
     exact lx rfl (And.intro rfl (retq trivial (B1 rfl (B1 rfl B8)) (A7 rfl (A7 rfl B9)) (A4 A8 (A4 A8 B2)))) (Sub.refl _)
    ·refine C1<|r0<|qm rfl<|A0 (E7 rfl rfl) rfl<|qm rfl<|en (ra3 rfl rfl rfl) ?_
     cases hs3
     exact lnT () rfl (su3 rfl rfl rfl)
   ·refine F3 ?_
    obtain rfl:=os hs3
    exact lx rfl px (.nil _)
  ·rcases o9 with vo9_0 | vo9_1
   ·rintro e s' H' - ⟨rfl,hret⟩
    cases h
    exact hret
   ·rintro e s' H' - ⟨rfl,rfl,rfl⟩
    refine s0<|qm rfl<|qm rfl<|es (ra2 rfl rfl)<|C4 ?_
    obtain rfl:=os h
    exact retq trivial (B1 rfl (B1 rfl B8)) (A7 rfl (A7 rfl B9)) (A4 A8 (A4 A8 B2))
def A07 (a0:(List ByteArray)) (a1:ByteArray) (s1:Int):Option (Int ⊕ (Int ⊕ Unit)) :=
 if (decide (s1 < (List.length a0:Int))) = true then
  (idx a0 s1).bind fun x4 =>
  if (eqS x4 a1) = true then
  some (.inr (.inl s1))
  else
  some (.inl (w64 (s1 + 1)))
 else
  some (.inr (.inr ()))
def A6j (a0:(List ByteArray)) (a1:ByteArray):Option Int :=
 (loop (A07 a0 a1) 0).bind fun (o6:(Int ⊕ Unit)) =>
 match o6 with
 | (.inl vo6_0) =>
  some vo6_0
 | (.inr vo6_1) =>
  some (-1)
theorem B8j {c:Sc} {H:A1} {a0:(List ByteArray)} {a1:ByteArray} {r:Int} (h:A6j a0 a1 = some r) :
  F0 tab c H (.fn (.func 104) [] []) [(.seq 1 (List.map cS a0)),.s a1] [.i r]:= by
 unfold A6j at h
 refine cE rfl rfl<|s0<|qm rfl<|es (ra2 rfl rfl)<|B6<|s0<|qm rfl<|es (ra3 rfl rfl rfl)<|C3<|oB h fun o6 ho6 h=>wl (fun s1=>[(0,(.seq 1 (List.map cS a0))),(1,.s a1),(5,.i s1)]) (fun (q2:Unit) s1=>[]) 0 (fun r e s' H'=>(match r with | (.inl v)=>e = .ret∧RetQ H [.tmp 4] [.i v] e s' H' | (.inr v)=>PX 0 [] (H++[]) e s' H':Prop)) () ho6 rfl rfl (fun _ _=>rfl) (fun _=>rfl) rfl (fun s1=>(bdc E6 (bdc A8 (bdc A8 bdn)))) (fun q2 s1 ys1 hs1=>?_) ?_
 ·unfold A07 at hs1
  refine B6<|s0<|qm rfl<|qm rfl<|A0 (D4 (f:=cS) rfl) rfl<|A0 (G3 rfl rfl) rfl<|es (ra4 rfl rfl rfl rfl)<|wi hs1 rfl (fun hc3 hs1=>?_) fun hc3 hs1=>?_
  ·refine C1<|B6<|C3<|s0<|oB hs1 fun x4 hx4 hs1=>qm rfl<|qm rfl<|A0 (E3 (f:=cS) rfl rfl hx4) rfl<|A0 (E9 rfl rfl) rfl<|qm rfl<|A0 (D7f rfl rfl) rfl<|es (ra4 rfl rfl rfl rfl)<|wi hs1 rfl (fun hc5 hs1=>?_) fun hc5 hs1=>?_
   ·refine s0<|qm rfl<|qm rfl<|es (ra1 rfl)<|C4 ?_
    obtain rfl:=os hs1
    exact lx rfl (And.intro rfl (retq trivial (B1 rfl B8) (A7 rfl B9) (A4 A8 B2))) (Sub.refl _)
   ·refine C1<|r0<|qm rfl<|A0 (E7 rfl rfl) rfl<|qm rfl<|en (ra3 rfl rfl rfl) ?_
    cases hs1
    exact lnT () rfl (su3 rfl rfl rfl)
  ·refine F3 ?_
   obtain rfl:=os hs1
   exact lx rfl px (.nil _)
 ·rcases o6 with vo6_0 | vo6_1
  ·rintro e s' H' - ⟨rfl,hret⟩
   cases h
   exact hret
  ·rintro e s' H' - ⟨rfl,rfl,rfl⟩
   refine s0<|qm rfl<|es (ra1 rfl)<|C4 ?_
   obtain rfl:=os h
   exact retq trivial (B1 rfl B8) (A7 rfl B9) (A4 A8 B2)
def A3h (a0:Int) (a1:Int) (a2:Int):Option Bool :=
 some ((decide (a0 ≥ a1)) && (decide (a0≤a2)))
theorem A8t {c:Sc} {H:A1} {a0:Int} {a1:Int} {a2:Int} {r:Bool} (h:A3h a0 a1 a2 = some r) :
  F0 tab c H (.fn (.func 117) [] []) [.i a0,.i a1,.i a2] [.b r]:= by
 unfold A3h at h
 refine cE rfl rfl<|s0<|qm rfl<|es (ra3 rfl rfl rfl)<|s0<|qm rfl<|qm rfl<|A0 (A66 rfl rfl) rfl<|qm rfl<|gp 4 14 (.b ((decide (a0 ≥ a1)) && (decide (a0≤a2)))) 10 rfl rfl (fun hg1=>?_) (fun hg1=>?_) ?_
 ·exact gT rfl hg1<|qm rfl<|gT rfl hg1<|qm rfl<|gT rfl hg1<|A0 (C0k rfl rfl) rfl<|A0 (C7 rfl hg1 rfl) rfl<|ge 4 (by rw [hg1]; rfl) rfl rfl
 ·exact nT rfl hg1 rfl<|nT rfl hg1 rfl<|nT rfl hg1 rfl<|A0 (C6 rfl hg1 rfl) rfl<|ge 4 (by rw [hg1]; rfl) rfl rfl
 refine qm rfl<|es (ra1 rfl)<|C4 ?_
 obtain rfl:=os h
 exact retq trivial (B1 rfl B8) (A7 rfl B9) (A4 A8 B2)
def A13 (a0:ByteArray) (s3:Int):Option (Int ⊕ (Bool ⊕ Unit)) :=
 if (decide (s3 < (ByteArray.size a0:Int))) = true then
  (B30 a0 s3).bind fun x6 =>
  (A3h (w64 x6) 97 122).bind fun x7 =>
  (B30 a0 s3).bind fun x8 =>
  (A3h (w64 x8) 48 57).bind fun x9 =>
  (if x9 = true then
  some true
  else
  (B30 a0 s3).bind fun x11 =>
  some (x11 == 46)).bind fun x12 =>
  if ((!x7) && ((s3 == 0) || (!x12))) = true then
  some (.inr (.inl false))
  else
  some (.inl (w64 (s3 + 1)))
 else
  some (.inr (.inr ()))
def A50 (a0:ByteArray):Option Bool :=
 if (((ByteArray.size a0:Int) == 0) || (decide ((ByteArray.size a0:Int) > 16))) = true then
  some false
 else
  (loop (A13 a0) 0).bind fun (o16:(Bool ⊕ Unit)) =>
  match o16 with
  | (.inl vo16_0) =>
  some vo16_0
  | (.inr vo16_1) =>
  some true
theorem B96 {c:Sc} {H:A1} {a0:ByteArray} {r:Bool} (h:A50 a0 = some r) :
  F0 tab c H (.fn (.func 103) [] []) [.s a0] [.b r]:= by
 unfold A50 at h
 refine cE rfl rfl<|s0<|qm rfl<|es (ra1 rfl)<|B6<|s0<|qm rfl<|A0 (C22 rfl) rfl<|A0 (F7 rfl rfl) rfl<|qm rfl<|gp 4 13 (.b (((ByteArray.size a0:Int) == 0) || (decide ((ByteArray.size a0:Int) > 16)))) 9 rfl rfl (fun hg1=>?_) (fun hg1=>?_) ?_
 ·exact nF rfl hg1 rfl<|nF rfl hg1 rfl<|nF rfl hg1 rfl<|A0 (C7 rfl hg1 rfl) rfl<|ge 4 (by rw [hg1]; rfl) rfl rfl
 ·exact gF rfl hg1<|qm rfl<|gF rfl hg1<|A0 (C22 rfl) rfl<|gF rfl hg1<|A0 (A80 rfl rfl) rfl<|A0 (C6 rfl hg1 rfl) rfl<|ge 4 (by rw [hg1]; rfl) rfl rfl
 refine es (ra2 rfl rfl)<|wi h rfl (fun hc2 h=>?_) fun hc2 h=>?_
 ·refine s0<|qm rfl<|es (ra1 rfl)<|C4 ?_
  obtain rfl:=os h
  exact retq trivial (B1 rfl B8) (A7 rfl B9) (A4 A8 B2)
 ·refine C1<|B6<|s0<|qm rfl<|es (ra2 rfl rfl)<|C3<|oB h fun o16 ho16 h=>wl (fun s3=>[(0,.s a0),(3,.i s3)]) (fun (q4:Unit) s3=>[]) 0 (fun r e s' H'=>(match r with | (.inl v)=>e = .ret∧RetQ H [.tmp 2] [.b v] e s' H' | (.inr v)=>PX 0 [] (H++[]) e s' H':Prop)) () ho16 rfl rfl (fun _ _=>rfl) (fun _=>rfl) rfl (fun s3=>(bdc A8 (bdc A8 bdn))) (fun q4 s3 ys3 hs3=>?_) ?_
  ·unfold A13 at hs3
   refine B6<|s0<|qm rfl<|qm rfl<|A0 (C22 rfl) rfl<|A0 (G3 rfl rfl) rfl<|es (ra3 rfl rfl rfl)<|wi hs3 rfl (fun hc5 hs3=>?_) fun hc5 hs3=>?_
   ·refine C1<|B6<|C3<|s0<|oB hs3 fun x6 hx6 hs3=>oB hs3 fun x7 hx7 hs3=>qm rfl<|qm rfl<|A0 (A9l rfl rfl hx6) rfl<|A0 (A9j rfl) rfl<|B4 (rs:=[.b x7]) rfl rfl (A2 rfl (A2 rfl (A2 rfl B5))) ((A8t hx7).frz)<|qm rfl<|es (ra3 rfl rfl rfl)<|s0<|oB hs3 fun x8 hx8 hs3=>oB hs3 fun x9 hx9 hs3=>oB hs3 fun x12 hx12 hs3=>qm rfl<|qm rfl<|A0 (A9l rfl rfl hx8) rfl<|A0 (A9j rfl) rfl<|B4 (rs:=[.b x9]) rfl rfl (A2 rfl (A2 rfl (A2 rfl B5))) ((A8t hx9).frz)<|qm rfl<|gp 5 35 (.b x12) 30 rfl rfl (fun hg10=>?_) (fun hg10=>?_) ?_
    ·obtain rfl:=os (bt hx12 hg10)
     exact nF rfl hg10 rfl<|nF rfl hg10 rfl<|nF rfl hg10 rfl<|nF rfl hg10 rfl<|A0 (C7 rfl hg10 rfl) rfl<|ge 5 rfl rfl rfl
    ·refine oB (bf hx12 hg10) fun x11 hx11 hx12=>?_
     obtain rfl:=os hx12
     exact gF rfl hg10<|qm rfl<|gF rfl hg10<|qm rfl<|gF rfl hg10<|A0 (A9l rfl rfl hx11) rfl<|gF rfl hg10<|A0 (F7 rfl rfl) rfl<|A0 (C6 rfl hg10 rfl) rfl<|ge 5 rfl rfl rfl
    refine qm rfl<|es (ra4 rfl rfl rfl rfl)<|s0<|qm rfl<|A0 (S7 rfl) rfl<|qm rfl<|gp 7 45 (.b ((!x7) && ((s3 == 0) || (!x12)))) 38 rfl rfl (fun hg13=>?_) (fun hg13=>?_) ?_
    ·refine gT rfl hg13<|qm rfl<|gT rfl hg13<|A0 (F7 rfl rfl) rfl<|gT rfl hg13<|qm rfl<|gq 3 44 (.b ((s3 == 0) || (!x12))) 41 rfl rfl (fun hg14=>?_) (fun hg14=>?_) ?_
     ·exact nF rfl hg14 rfl<|nF rfl hg14 rfl<|gT rfl hg13<|A0 (C7 rfl hg14 rfl) rfl<|ge 3 (by rw [hg14]; rfl) rfl rfl
     ·exact gF rfl hg14<|qm rfl<|gF rfl hg14<|A0 (S7 rfl) rfl<|gT rfl hg13<|A0 (C6 rfl hg14 rfl) rfl<|ge 3 (by rw [hg14]; rfl) rfl rfl
     exact A0 (C7 rfl hg13 rfl) rfl<|ge 5 (by rw [hg13]; rfl) rfl rfl
    ·exact nT rfl hg13 rfl<|nT rfl hg13 rfl<|nT rfl hg13 rfl<|nX rfl rfl<|nX rfl rfl<|nT rfl hg13 rfl<|A0 (C6 rfl hg13 rfl) rfl<|ge 7 (by rw [hg13]; rfl) rfl rfl
    refine es (ra3 rfl rfl rfl)<|wi hs3 rfl (fun hc15 hs3=>?_) fun hc15 hs3=>?_
    ·refine s0<|qm rfl<|es (ra1 rfl)<|C4 ?_
     obtain rfl:=os hs3
     exact lx rfl (And.intro rfl (retq trivial (B1 rfl B8) (A7 rfl B9) (A4 A8 B2))) (Sub.refl _)
    ·refine C1<|r0<|qm rfl<|A0 (E7 rfl rfl) rfl<|qm rfl<|en (ra2 rfl rfl) ?_
     cases hs3
     exact lnT () rfl (su2 rfl rfl)
   ·refine F3 ?_
    obtain rfl:=os hs3
    exact lx rfl px (.nil _)
  ·rcases o16 with vo16_0 | vo16_1
   ·rintro e s' H' - ⟨rfl,hret⟩
    cases h
    exact hret
   ·rintro e s' H' - ⟨rfl,rfl,rfl⟩
    refine s0<|qm rfl<|es (ra1 rfl)<|C4 ?_
    obtain rfl:=os h
    exact retq trivial (B1 rfl B8) (A7 rfl B9) (A4 A8 B2)
def A7p (a0:ByteArray) (a1:(List ByteArray)):Option Int :=
 (A50 a0).bind fun x1 =>
 if (!x1) = true then
  some 6
 else
  (A6j a1 a0).bind fun x3 =>
  if (decide (x3 ≥ 0)) = true then
  some 5
  else
  some 0
theorem C26 {c:Sc} {H:A1} {a0:ByteArray} {a1:(List ByteArray)} {r:Int} (h:A7p a0 a1 = some r) :
  F0 tab c H (.fn (.func 86) [] []) [.s a0,(.seq 1 (List.map cS a1))] [.i r]:= by
 unfold A7p at h
 refine cE rfl rfl<|s0<|qm rfl<|es (ra2 rfl rfl)<|B6<|s0<|oB h fun x1 hx1 h=>qm rfl<|B4 (rs:=[.b x1]) rfl rfl (A2 rfl B5) ((B96 hx1).frz)<|A0 (S7 rfl) rfl<|es (ra3 rfl rfl rfl)<|wi h rfl (fun hc2 h=>?_) fun hc2 h=>?_
 ·refine s0<|qm rfl<|es (ra1 rfl)<|C4 ?_
  obtain rfl:=os h
  exact retq trivial (B1 rfl B8) (A7 rfl B9) (A4 A8 B2)
 ·refine C1<|B6<|s0<|oB h fun x3 hx3 h=>qm rfl<|qm rfl<|B4 (rs:=[.i x3]) rfl rfl (A2 rfl (A2 rfl B5)) ((B8j hx3).frz)<|A0 (A66 rfl rfl) rfl<|es (ra1 rfl)<|wi h rfl (fun hc4 h=>?_) fun hc4 h=>?_
  ·refine s0<|qm rfl<|es (ra1 rfl)<|C4 ?_
   obtain rfl:=os h
   exact retq trivial (B1 rfl B8) (A7 rfl B9) (A4 A8 B2)
  ·refine C1<|s0<|qm rfl<|es (ra1 rfl)<|C4 ?_
   obtain rfl:=os h
   exact retq trivial (B1 rfl B8) (A7 rfl B9) (A4 A8 B2)
def Y4 (a0:DrRoom) (a1:DrLook) (a2:Bool) (s2:Int):Option (Int ⊕ (Int ⊕ Unit)) :=
 if (decide (s2 < (List.length a1.Looks:Int))) = true then
  (if a2 = true then
  (idx a1.Looks s2).bind fun x6 =>
  some (x6 == (-1))
  else
  some false).bind fun x7 =>
  (if ((s2 == 0) && (!x7)) = true then
  (idx a1.Looks s2).bind fun x10 =>
  (L8 x10 0 (w64 ((List.length a0.Ounces:Int) - 1))).bind fun x11 =>
  some (!x11)
  else
  some false).bind fun x12 =>
  if x12 = true then
  some (.inr (.inl 4))
  else
  some (.inl (w64 (s2 + 1)))
 else
  some (.inr (.inr ()))
def Y5 (a1:DrLook) (a2:Bool) (s15:Int):Option (Int ⊕ (Int ⊕ Unit)) :=
 if (decide (s15 < (List.length a1.Looks:Int))) = true then
  (if a2 = true then
  (idx a1.Looks s15).bind fun x19 =>
  some (x19 == (-1))
  else
  some false).bind fun x20 =>
  (if (!x20) = true then
  (idx a1.Looks s15).bind fun x22 =>
  (L8 x22 0 5).bind fun x23 =>
  some (!x23)
  else
  some false).bind fun x24 =>
  if x24 = true then
  some (.inr (.inl 7))
  else
  some (.inl (w64 (s15 + 1)))
 else
  some (.inr (.inr ()))
def A2w (a0:DrRoom) (a1:DrLook) (a2:Bool):Option Int :=
 if ((List.length a1.Looks:Int) != (List.length a0.Costs:Int)) = true then
  some 3
 else
  (loop (Y4 a0 a1 a2) 0).bind fun (o14:(Int ⊕ Unit)) =>
  match o14 with
  | (.inl vo14_0) =>
  some vo14_0
  | (.inr vo14_1) =>
  (loop (Y5 a1 a2) 1).bind fun (o26:(Int ⊕ Unit)) =>
  match o26 with
  | (.inl vo26_0) =>
   some vo26_0
  | (.inr vo26_1) =>
   (L8 a1.Hair 0 50).bind fun x27 =>
   if (!x27) = true then
   some 7
   else
   some 0
theorem B8l {c:Sc} {H:A1} {a0:DrRoom} {a1:DrLook} {a2:Bool} {r:Int} (h:A2w a0 a1 a2 = some r) :
  F0 tab c H (.fn (.func 87) [] []) [(.agg (A3 a0)),(.agg (A6 a1)),.b a2] [.i r]:= by
 unfold A2w at h
 refine cE rfl rfl<|sg 0 rfl<|A0 (F6 (cs:=A3 a0) rfl rfl rfl) rfl<|A0 (F6 (cs:=A6 a1) rfl rfl rfl) rfl<|qm rfl<|es (ra3 rfl rfl rfl)<|B6<|s0<|A0 (D2 rfl) rfl<|A0 (C8 rfl rfl rfl) rfl<|A0 (D4 (f:=cI) rfl) rfl<|A0 (D2 rfl) rfl<|A0 (C8 rfl rfl rfl) rfl<|A0 (D4 (f:=cI) rfl) rfl<|A0 (J1 rfl rfl) rfl<|es (ra4 rfl rfl rfl rfl)<|wi h rfl (fun hc1 h=>?_) fun hc1 h=>?_
 ·refine s0<|qm rfl<|es (ra1 rfl)<|C4 ?_
  obtain rfl:=os h
  exact retq trivial (B1 rfl B8) (A7 rfl B9) (A4 A8 B2)
 ·refine C1<|B6<|s0<|qm rfl<|es (ra4 rfl rfl rfl rfl)<|C3<|oB h fun o14 ho14 h=>wl (fun s2=>[(2,.b a2),(3,(.ptr (H.length + 0) 0)),(4,(.ptr (H.length + 1) 0)),(7,.i s2)]) (fun (q3:Unit) s2=>[(.cells (A3 a0)),(.cells (A6 a1))]) 2 (fun r e s' H'=>(match r with | (.inl v)=>e = .ret∧RetQ H [.tmp 6] [.i v] e s' H' | (.inr v)=>PX 0 [(2,.b a2),(4,(.ptr (H.length + 1) 0))] (H++[(.cells (A3 a0)),(.cells (A6 a1))]) e s' H':Prop)) () ho14 rfl rfl (fun _ _=>rfl) (fun _=>rfl) rfl (fun s2=>(bdc A8 (bdc (E8 rfl) (bdc (E8 rfl) (bdc A8 bdn))))) (fun q3 s2 ys2 hs2=>?_) ?_
  ·unfold Y4 at hs2
   refine B6<|s0<|qm rfl<|A0 (D2 rfl) rfl<|A0 (C8 rfl rfl rfl) rfl<|A0 (D4 (f:=cI) rfl) rfl<|A0 (G3 rfl rfl) rfl<|es (ra5 rfl rfl rfl rfl rfl)<|wi hs2 rfl (fun hc4 hs2=>?_) fun hc4 hs2=>?_
   ·refine C1<|B6<|C3<|s0<|oB hs2 fun x7 hx7 hs2=>qm rfl<|qm rfl<|gp 7 33 (.b x7) 26 rfl rfl (fun hg5=>?_) (fun hg5=>?_) ?_
    ·refine oB (bt hx7 hg5) fun x6 hx6 hx7=>?_
     obtain rfl:=os hx7
     exact gT rfl hg5<|A0 (D2 rfl) rfl<|gT rfl hg5<|A0 (C8 rfl rfl rfl) rfl<|gT rfl hg5<|qm rfl<|gT rfl hg5<|A0 (E3 (f:=cI) rfl rfl hx6) rfl<|gT rfl hg5<|A0 (E9 rfl rfl) rfl<|gT rfl hg5<|A0 (F7 rfl rfl) rfl<|A0 (C7 rfl hg5 rfl) rfl<|ge 7 rfl rfl rfl
    ·obtain rfl:=os (bf hx7 hg5)
     exact nT rfl hg5 rfl<|nT rfl hg5 rfl<|nT rfl hg5 rfl<|nT rfl hg5 rfl<|nT rfl hg5 rfl<|nT rfl hg5 rfl<|A0 (C6 rfl hg5 rfl) rfl<|ge 7 rfl rfl rfl
    refine qm rfl<|es (ra5 rfl rfl rfl rfl rfl)<|s0<|oB hs2 fun x12 hx12 hs2=>qm rfl<|A0 (F7 rfl rfl) rfl<|qm rfl<|gp 3 39 (.b ((s2 == 0) && (!x7))) 36 rfl rfl (fun hg8=>?_) (fun hg8=>?_) ?_
    ·exact gT rfl hg8<|qm rfl<|gT rfl hg8<|A0 (S7 rfl) rfl<|A0 (C7 rfl hg8 rfl) rfl<|ge 3 (by rw [hg8]; rfl) rfl rfl
    ·exact nT rfl hg8 rfl<|nT rfl hg8 rfl<|A0 (C6 rfl hg8 rfl) rfl<|ge 3 (by rw [hg8]; rfl) rfl rfl
    refine qm rfl<|gp 12 52 (.b x12) 40 rfl rfl (fun hg9=>?_) (fun hg9=>?_) ?_
    ·refine oB (bt hx12 hg9) fun x10 hx10 hx12=>oB hx12 fun x11 hx11 hx12=>?_
     obtain rfl:=os hx12
     exact gT rfl hg9<|A0 (D2 rfl) rfl<|gT rfl hg9<|A0 (C8 rfl rfl rfl) rfl<|gT rfl hg9<|qm rfl<|gT rfl hg9<|A0 (E3 (f:=cI) rfl rfl hx10) rfl<|gT rfl hg9<|A0 (E9 rfl rfl) rfl<|gT rfl hg9<|A0 (D2 rfl) rfl<|gT rfl hg9<|A0 (C8 rfl rfl rfl) rfl<|gT rfl hg9<|A0 (D4 (f:=cI) rfl) rfl<|gT rfl hg9<|A0 (Y8 rfl rfl) rfl<|gT rfl hg9<|B4 (rs:=[.b x11]) rfl rfl (A2 rfl (A2 rfl (A2 rfl B5))) ((O2 hx11).frz)<|gT rfl hg9<|A0 (S7 rfl) rfl<|A0 (C7 rfl hg9 rfl) rfl<|ge 12 rfl rfl rfl
    ·obtain rfl:=os (bf hx12 hg9)
     exact nT rfl hg9 rfl<|nT rfl hg9 rfl<|nT rfl hg9 rfl<|nT rfl hg9 rfl<|nT rfl hg9 rfl<|nT rfl hg9 rfl<|nT rfl hg9 rfl<|nT rfl hg9 rfl<|nT rfl hg9 rfl<|O0 (G7 rfl (by rw [hg9]; rfl)) rfl<|nT rfl hg9 rfl<|A0 (C6 rfl hg9 rfl) rfl<|ge 12 rfl rfl rfl
    refine es (ra5 rfl rfl rfl rfl rfl)<|wi hs2 rfl (fun hc13 hs2=>?_) fun hc13 hs2=>?_
    ·refine s0<|qm rfl<|es (ra1 rfl)<|C4 ?_
     obtain rfl:=os hs2
     exact lx rfl (And.intro rfl (retq trivial (B1 rfl B8) (A7 rfl B9) (A4 A8 B2))) (Sub.refl _)
    ·refine C1<|r0<|qm rfl<|A0 (E7 rfl rfl) rfl<|qm rfl<|en (ra4 rfl rfl rfl rfl) ?_
     cases hs2
     exact lnT () rfl (su4 rfl rfl rfl rfl)
   ·refine F3 ?_
    obtain rfl:=os hs2
    exact lx rfl px (su2 rfl rfl)
  ·rcases o14 with vo14_0 | vo14_1
   ·rintro e s' H' - ⟨rfl,hret⟩
    cases h
    exact hret
   ·rintro e s' H' - ⟨rfl,rfl,rfl⟩
    refine B6<|s0<|qm rfl<|es (ra3 rfl rfl rfl)<|C3<|oB h fun o26 ho26 h=>wl (fun s15=>[(2,.b a2),(4,(.ptr (H.length + 1) 0)),(9,.i s15)]) (fun (q16:Unit) s15=>[(.cells (A3 a0)),(.cells (A6 a1))]) 2 (fun r e s' H'=>(match r with | (.inl v)=>e = .ret∧RetQ H [.tmp 6] [.i v] e s' H' | (.inr v)=>PX 2 [(4,(.ptr (H.length + 1) 0))] (H++[(.cells (A3 a0)),(.cells (A6 a1))]) e s' H':Prop)) () ho26 rfl rfl (fun _ _=>rfl) (fun _=>rfl) rfl (fun s15=>(bdc A8 (bdc (E8 rfl) (bdc A8 bdn)))) (fun q16 s15 ys15 hs15=>?_) ?_
    ·unfold Y5 at hs15
     refine B6<|s0<|qm rfl<|A0 (D2 rfl) rfl<|A0 (C8 rfl rfl rfl) rfl<|A0 (D4 (f:=cI) rfl) rfl<|A0 (G3 rfl rfl) rfl<|es (ra4 rfl rfl rfl rfl)<|wi hs15 rfl (fun hc17 hs15=>?_) fun hc17 hs15=>?_
     ·refine C1<|B6<|C3<|s0<|oB hs15 fun x20 hx20 hs15=>qm rfl<|qm rfl<|gp 7 68 (.b x20) 61 rfl rfl (fun hg18=>?_) (fun hg18=>?_) ?_
      ·refine oB (bt hx20 hg18) fun x19 hx19 hx20=>?_
       obtain rfl:=os hx20
       exact gT rfl hg18<|A0 (D2 rfl) rfl<|gT rfl hg18<|A0 (C8 rfl rfl rfl) rfl<|gT rfl hg18<|qm rfl<|gT rfl hg18<|A0 (E3 (f:=cI) rfl rfl hx19) rfl<|gT rfl hg18<|A0 (E9 rfl rfl) rfl<|gT rfl hg18<|A0 (F7 rfl rfl) rfl<|A0 (C7 rfl hg18 rfl) rfl<|ge 7 rfl rfl rfl
      ·obtain rfl:=os (bf hx20 hg18)
       exact nT rfl hg18 rfl<|nT rfl hg18 rfl<|nT rfl hg18 rfl<|nT rfl hg18 rfl<|nT rfl hg18 rfl<|nT rfl hg18 rfl<|A0 (C6 rfl hg18 rfl) rfl<|ge 7 rfl rfl rfl
      refine qm rfl<|es (ra4 rfl rfl rfl rfl)<|s0<|oB hs15 fun x24 hx24 hs15=>qm rfl<|A0 (S7 rfl) rfl<|qm rfl<|gp 8 79 (.b x24) 71 rfl rfl (fun hg21=>?_) (fun hg21=>?_) ?_
      ·refine oB (bt hx24 hg21) fun x22 hx22 hx24=>oB hx24 fun x23 hx23 hx24=>?_
       obtain rfl:=os hx24
       exact gT rfl hg21<|A0 (D2 rfl) rfl<|gT rfl hg21<|A0 (C8 rfl rfl rfl) rfl<|gT rfl hg21<|qm rfl<|gT rfl hg21<|A0 (E3 (f:=cI) rfl rfl hx22) rfl<|gT rfl hg21<|A0 (E9 rfl rfl) rfl<|gT rfl hg21<|B4 (rs:=[.b x23]) rfl rfl (A2 rfl (A2 rfl (A2 rfl B5))) ((O2 hx23).frz)<|gT rfl hg21<|A0 (S7 rfl) rfl<|A0 (C7 rfl hg21 rfl) rfl<|ge 8 rfl rfl rfl
      ·obtain rfl:=os (bf hx24 hg21)
       exact nT rfl hg21 rfl<|nT rfl hg21 rfl<|nT rfl hg21 rfl<|nT rfl hg21 rfl<|nT rfl hg21 rfl<|O0 (G7 rfl (by rw [hg21]; rfl)) rfl<|nT rfl hg21 rfl<|A0 (C6 rfl hg21 rfl) rfl<|ge 8 rfl rfl rfl
      refine es (ra4 rfl rfl rfl rfl)<|wi hs15 rfl (fun hc25 hs15=>?_) fun hc25 hs15=>?_
      ·refine s0<|qm rfl<|es (ra1 rfl)<|C4 ?_
       obtain rfl:=os hs15
       exact lx rfl (And.intro rfl (retq trivial (B1 rfl B8) (A7 rfl B9) (A4 A8 B2))) (Sub.refl _)
      ·refine C1<|r0<|qm rfl<|A0 (E7 rfl rfl) rfl<|qm rfl<|en (ra3 rfl rfl rfl) ?_
       cases hs15
       exact lnT () rfl (su3 rfl rfl rfl)
     ·refine F3 ?_
      obtain rfl:=os hs15
      exact lx rfl px (su1 rfl)
    ·rcases o26 with vo26_0 | vo26_1
     ·rintro e s' H' - ⟨rfl,hret⟩
      cases h
      exact hret
     ·rintro e s' H' - ⟨rfl,rfl,rfl⟩
      refine B6<|s0<|oB h fun x27 hx27 h=>A0 (D2 rfl) rfl<|A0 (C8 rfl rfl rfl) rfl<|B4 (rs:=[.b x27]) rfl rfl (A2 rfl (A2 rfl (A2 rfl B5))) ((O2 hx27).frz)<|A0 (S7 rfl) rfl<|es (ra1 rfl)<|wi h rfl (fun hc28 h=>?_) fun hc28 h=>?_
      ·refine s0<|qm rfl<|es (ra1 rfl)<|C4 ?_
       obtain rfl:=os h
       exact retq trivial (B1 rfl B8) (A7 rfl B9) (A4 A8 B2)
      ·refine C1<|s0<|qm rfl<|es (ra1 rfl)<|C4 ?_
       obtain rfl:=os h
       exact retq trivial (B1 rfl B8) (A7 rfl B9) (A4 A8 B2)
def V8 (a0:DrRoom) (a1:(List DrLook)) (a3:Bool) (s2:(Int × (List ByteArray))):Option ((Int × (List ByteArray)) ⊕ ((Int × Int) ⊕ (List ByteArray))) :=
 if (decide (s2.1 < (List.length a1:Int))) = true then
  (idx a1 s2.1).bind fun x5 =>
  (A7p x5.Name s2.2).bind fun x6 =>
  (if (x6 == 0) = true then
   (idx a1 s2.1).bind fun x9 =>
   (A2w a0 x9 a3).bind fun x10 =>
   some x10
  else
   some x6).bind fun (p7:Int) =>
  if (p7 != 0) = true then
  some (.inr (.inl (s2.1,p7)))
  else
  (idx a1 s2.1).bind fun x12 =>
  (app 16 s2.2 [x12.Name]).bind fun x13 =>
  some (.inl ((w64 (s2.1 + 1)),x13))
 else
  some (.inr (.inr s2.2))
def A1o (a0:DrRoom) (a1:(List DrLook)) (a2:Int) (a3:Bool):Option (Int × Int) :=
 if (decide ((List.length a1:Int) > a2)) = true then
  some (0,3)
 else
  (loop (V8 a0 a1 a3) (0,([]:List ByteArray))).bind fun (o14:((Int × Int) ⊕ (List ByteArray))) =>
  match o14 with
  | (.inl vo14_0) =>
  some vo14_0
  | (.inr vo14_1) =>
  some (0,0)
theorem A8u {c:Sc} {H:A1} {a0:DrRoom} {a1:(List DrLook)} {a2:Int} {a3:Bool} {r:(Int × Int)} (h:A1o a0 a1 a2 a3 = some r) :
  F0 tab c H (.fn (.func 51) [] []) [(.agg (A3 a0)),(.seq 3 (List.map A6 a1)),.i a2,.b a3] [.i r.1,.i r.2]:= by
 unfold A1o at h
 refine cE rfl rfl<|sg 0 rfl<|A0 (F6 (cs:=A3 a0) rfl rfl rfl) rfl<|qm rfl<|qm rfl<|es (ra4 rfl rfl rfl rfl)<|B6<|s0<|qm rfl<|A0 (D4 (f:=A6) rfl) rfl<|qm rfl<|A0 (A80 rfl rfl) rfl<|es (ra4 rfl rfl rfl rfl)<|wi h rfl (fun hc1 h=>?_) fun hc1 h=>?_
 ·refine s0<|qm rfl<|qm rfl<|es (ra2 rfl rfl)<|C4 ?_
  obtain rfl:=os h
  exact retq trivial (B1 rfl (B1 rfl B8)) (A7 rfl (A7 rfl B9)) (A4 A8 (A4 A8 B2))
 ·refine C1<|sg 1 rfl<|A0 A3e rfl<|es (ra4 rfl rfl rfl rfl)<|B6<|s0<|qm rfl<|es (ra5 rfl rfl rfl rfl rfl)<|C3<|oB h fun o14 ho14 h=>wl (fun s2=>[(1,(.seq 3 (List.map A6 a1))),(3,.b a3),(4,(.ptr (H.length + 0) 0)),(10,(.asl (H.length + 1) (List.length s2.2))),(11,.i s2.1)]) (fun (q3:Bool) s2=>[(.cells (A3 a0)),(.arr 1 q3 (List.map cS s2.2))]) 2 (fun r e s' H'=>(match r with | (.inl v)=>e = .ret∧RetQ H [.tmp 8,.tmp 9] [.i v.1,.i v.2] e s' H' | (.inr v)=>e = (.exit 0)∧s' = []∧∃ (q0q:Bool),H' = (H++[(.cells (A3 a0)),(.arr 1 q0q (List.map cS v))]):Prop)) false ho14 rfl rfl (fun _ _=>rfl) (fun _=>rfl) rfl (fun s2=>(bdc E6 (bdc A8 (bdc (E8 rfl) (bdc (A0s rfl) (bdc A8 bdn)))))) (fun q3 s2 ys2 hs2=>?_) ?_
  ·unfold V8 at hs2
   refine B6<|s0<|qm rfl<|qm rfl<|A0 (D4 (f:=A6) rfl) rfl<|A0 (G3 rfl rfl) rfl<|es (ra6 rfl rfl rfl rfl rfl rfl)<|wi hs2 rfl (fun hc4 hs2=>?_) fun hc4 hs2=>?_
   ·refine C1<|B6<|C3<|s0<|oB hs2 fun x5 hx5 hs2=>oB hs2 fun x6 hx6 hs2=>qm rfl<|qm rfl<|A0 (E3 (f:=A6) rfl rfl hx5) rfl<|A0 (D7l (ds:=(A6 x5)) rfl rfl) rfl<|A0 (E9 rfl rfl) rfl<|qm rfl<|B4 (rs:=[.i x6]) rfl rfl (A2 rfl (A2 (B1i rfl (List.length_map _)) B5)) ((C26 hx6).frz)<|qm rfl<|es (ra6 rfl rfl rfl rfl rfl rfl)<|B6<|s0<|qm rfl<|A0 (F7 rfl rfl) rfl<|es (ra7 rfl rfl rfl rfl rfl rfl rfl)<|oB hs2 fun p7 hp7 hs2=>B48 (Q1:=fun e s' H'=>e = .normal∧s' = [(1,(.seq 3 (List.map A6 a1))),(3,.b a3),(4,(.ptr (H.length + 0) 0)),(10,(.asl (H.length + 1) (List.length s2.2))),(11,.i s2.1),(12,.i p7)]∧H' = (H++[(.cells (A3 a0)),(.arr 1 true (List.map cS s2.2))])) ?_ ?_
    ·refine wi hp7 rfl (fun hc8 hp7=>?_) fun hc8 hp7=>?_
     ·refine r0<|oB hp7 fun x9 hx9 hp7=>oB hp7 fun x10 hx10 hp7=>A0 (C2 rfl rfl rfl) rfl<|qm rfl<|qm rfl<|A0 (E3 (f:=A6) rfl rfl hx9) rfl<|A0 (M2 rfl rfl) rfl<|qm rfl<|B4 (rs:=[.i x10]) rfl rfl (A2 (C9 rfl) (A2 (C9 rfl) (A2 rfl B5))) ((B8l hx10).frz)<|qm rfl<|en (ra6 rfl rfl rfl rfl rfl rfl) ?_
      obtain rfl:=os hp7
      exact me (And.intro rfl (And.intro rfl rfl)) (su6 rfl rfl rfl rfl rfl rfl)
     ·refine C1 ?_
      obtain rfl:=os hp7
      exact me (And.intro rfl (And.intro rfl rfl)) (su6 rfl rfl rfl rfl rfl rfl)
    ·rintro e s' H' ⟨rfl,rfl,rfl⟩
     refine B6<|s0<|qm rfl<|A0 (J1 rfl rfl) rfl<|es (ra7 rfl rfl rfl rfl rfl rfl rfl)<|wi hs2 rfl (fun hc11 hs2=>?_) fun hc11 hs2=>?_
     ·refine s0<|qm rfl<|qm rfl<|qm rfl<|qm rfl<|es (ra2 rfl rfl)<|C4 ?_
      obtain rfl:=os hs2
      exact lx rfl (And.intro rfl (retq trivial (B1 rfl (B1 rfl B8)) (A7 rfl (A7 rfl B9)) (A4 A8 (A4 A8 B2)))) (Sub.refl _)
     ·refine C1<|r0<|oB hs2 fun x12 hx12 hs2=>oB hs2 fun x13 hx13 hs2=>qm rfl<|qm rfl<|qm rfl<|A0 (E3 (f:=A6) rfl rfl hx12) rfl<|A0 (D7l (ds:=(A6 x12)) rfl rfl) rfl<|A0 (E9 rfl rfl) rfl<|A0 (G2 (rows:=List.map cS [x12.Name]) rfl rfl (D8 (fun _=>rfl) _)) rfl<|R2 (V3 (f:=cS) rfl rfl rfl rfl Q3 (fun _=>rfl) hx13) rfl<|qm rfl<|en (ra5 rfl rfl rfl rfl rfl)<|r0<|qm rfl<|A0 (E7 rfl rfl) rfl<|qm rfl<|en (ra5 rfl rfl rfl rfl rfl) ?_
      cases hs2
      exact lnT true rfl (su5 rfl rfl rfl rfl rfl)
   ·refine F3 ?_
    obtain rfl:=os hs2
    exact lx rfl (And.intro rfl (And.intro rfl ⟨q3,rfl⟩)) (.nil _)
  ·rcases o14 with vo14_0 | vo14_1
   ·rintro e s' H' - ⟨rfl,hret⟩
    cases h
    exact hret
   ·rintro e s' H' - ⟨rfl,rfl,q15,rfl⟩
    refine s0<|qm rfl<|qm rfl<|es (ra2 rfl rfl)<|C4 ?_
    obtain rfl:=os h
    exact retq trivial (B1 rfl (B1 rfl B8)) (A7 rfl (A7 rfl B9)) (A4 A8 (A4 A8 B2))
def S6 (a0:DrRoom):Option (Int × Int × Int) :=
 (A0p a0.Costs 4 100).bind fun x1 =>
 if (x1.2 != 0) = true then
  some (1,x1.1,x1.2)
 else
  (A0p a0.Ounces 4 50).bind fun x3 =>
  if (x3.2 != 0) = true then
  some (2,x3.1,x3.2)
  else
  (A1o a0 a0.Figures 6 false).bind fun x5 =>
  if (x5.2 != 0) = true then
   some (3,x5.1,x5.2)
  else
   (A1o a0 a0.Persons 5 true).bind fun x7 =>
   if (x7.2 != 0) = true then
   some (4,x7.1,x7.2)
   else
   some (0,0,0)
theorem U8 {c:Sc} {H:A1} {a0:DrRoom} {r:(Int × Int × Int)} (h:S6 a0 = some r) :
  F0 tab c H (.fn (.func 17) [] []) [(.agg (A3 a0))] [.i r.1,.i r.2.1,.i r.2.2]:= by
 unfold S6 at h
 refine cE rfl rfl<|sg 0 rfl<|A0 (F6 (cs:=A3 a0) rfl rfl rfl) rfl<|qm rfl<|qm rfl<|qm rfl<|es (ra1 rfl)<|s0<|oB h fun x1 hx1 h=>A0 (D2 rfl) rfl<|A0 (C8 rfl rfl rfl) rfl<|B4 (rs:=[.i x1.1,.i x1.2]) rfl rfl (A2 rfl (A2 rfl (A2 rfl B5))) ((A7k hx1).frz)<|qm rfl<|A0 (A5 rfl rfl) rfl<|A0 (A5 rfl rfl) rfl<|qm rfl<|qm rfl<|es (ra3 rfl rfl rfl)<|B6<|s0<|qm rfl<|A0 (J1 rfl rfl) rfl<|es (ra4 rfl rfl rfl rfl)<|wi h rfl (fun hc2 h=>?_) fun hc2 h=>?_
 ·refine s0<|qm rfl<|qm rfl<|qm rfl<|qm rfl<|qm rfl<|es (ra3 rfl rfl rfl)<|C4 ?_
  obtain rfl:=os h
  exact retq trivial (B1 rfl (B1 rfl (B1 rfl B8))) (A7 rfl (A7 rfl (A7 rfl B9))) (A4 A8 (A4 A8 (A4 A8 B2)))
 ·refine C1<|s0<|oB h fun x3 hx3 h=>A0 (D2 rfl) rfl<|A0 (C8 rfl rfl rfl) rfl<|B4 (rs:=[.i x3.1,.i x3.2]) rfl rfl (A2 rfl (A2 rfl (A2 rfl B5))) ((A7k hx3).frz)<|qm rfl<|A0 (A5 rfl rfl) rfl<|A0 (A5 rfl rfl) rfl<|qm rfl<|qm rfl<|es (ra3 rfl rfl rfl)<|B6<|s0<|qm rfl<|A0 (J1 rfl rfl) rfl<|es (ra4 rfl rfl rfl rfl)<|wi h rfl (fun hc4 h=>?_) fun hc4 h=>?_
  ·refine s0<|qm rfl<|qm rfl<|qm rfl<|qm rfl<|qm rfl<|es (ra3 rfl rfl rfl)<|C4 ?_
   obtain rfl:=os h
   exact retq trivial (B1 rfl (B1 rfl (B1 rfl B8))) (A7 rfl (A7 rfl (A7 rfl B9))) (A4 A8 (A4 A8 (A4 A8 B2)))
  ·refine C1<|s0<|oB h fun x5 hx5 h=>A0 (C2 rfl rfl rfl) rfl<|A0 (D2 rfl) rfl<|A0 (C8 rfl rfl rfl) rfl<|B4 (rs:=[.i x5.1,.i x5.2]) rfl rfl (A2 (C9 rfl) (A2 rfl (A2 rfl (A2 rfl B5)))) ((A8u hx5).frz)<|qm rfl<|A0 (A5 rfl rfl) rfl<|A0 (A5 rfl rfl) rfl<|qm rfl<|qm rfl<|es (ra3 rfl rfl rfl)<|B6<|s0<|qm rfl<|A0 (J1 rfl rfl) rfl<|es (ra4 rfl rfl rfl rfl)<|wi h rfl (fun hc6 h=>?_) fun hc6 h=>?_
   ·refine s0<|qm rfl<|qm rfl<|qm rfl<|qm rfl<|qm rfl<|es (ra3 rfl rfl rfl)<|C4 ?_
    obtain rfl:=os h
    exact retq trivial (B1 rfl (B1 rfl (B1 rfl B8))) (A7 rfl (A7 rfl (A7 rfl B9))) (A4 A8 (A4 A8 (A4 A8 B2)))
   ·refine C1<|s0<|oB h fun x7 hx7 h=>A0 (C2 rfl rfl rfl) rfl<|A0 (D2 rfl) rfl<|A0 (C8 rfl rfl rfl) rfl<|B4 (rs:=[.i x7.1,.i x7.2]) rfl rfl (A2 (C9 rfl) (A2 rfl (A2 rfl (A2 rfl B5)))) ((A8u hx7).frz)<|qm rfl<|A0 (A5 rfl rfl) rfl<|A0 (A5 rfl rfl) rfl<|qm rfl<|qm rfl<|es (ra2 rfl rfl)<|B6<|s0<|qm rfl<|A0 (J1 rfl rfl) rfl<|es (ra3 rfl rfl rfl)<|wi h rfl (fun hc8 h=>?_) fun hc8 h=>?_
    ·refine s0<|qm rfl<|qm rfl<|qm rfl<|qm rfl<|qm rfl<|es (ra3 rfl rfl rfl)<|C4 ?_
     obtain rfl:=os h
     exact retq trivial (B1 rfl (B1 rfl (B1 rfl B8))) (A7 rfl (A7 rfl (A7 rfl B9))) (A4 A8 (A4 A8 (A4 A8 B2)))
    ·refine C1<|s0<|qm rfl<|qm rfl<|qm rfl<|es (ra3 rfl rfl rfl)<|C4 ?_
     obtain rfl:=os h
     exact retq trivial (B1 rfl (B1 rfl (B1 rfl B8))) (A7 rfl (A7 rfl (A7 rfl B9))) (A4 A8 (A4 A8 (A4 A8 B2)))
def A0x (a0:Int) (a1:Int) (a2:Int):Option Bool :=
 some ((decide (a0 < a1)) || (decide (a0 > a2)))
theorem B3h {c:Sc} {H:A1} {a0:Int} {a1:Int} {b1:Nat} (hb1:hcells H b1 = some (cI a1)) {a2:Int} {b2:Nat} (hb2:hcells H b2 = some (cI a2)) {r:Bool} (h:A0x a0 a1 a2 = some r) :
  F0 tab c H (.fn (.func 90) [] []) [.i a0,.ptr b1 0,.ptr b2 0] [.b r]:= by
 unfold A0x at h
 refine cE rfl rfl<|s0<|qm rfl<|es (ra3 rfl rfl rfl)<|s0<|qm rfl<|A0 (R5 rfl hb1 rfl) rfl<|A0 (G3 rfl rfl) rfl<|qm rfl<|gp 4 12 (.b ((decide (a0 < a1)) || (decide (a0 > a2)))) 8 rfl rfl (fun hg1=>?_) (fun hg1=>?_) ?_
 ·exact nF rfl hg1 rfl<|nF rfl hg1 rfl<|nF rfl hg1 rfl<|A0 (C7 rfl hg1 rfl) rfl<|ge 4 (by rw [hg1]; rfl) rfl rfl
 ·exact gF rfl hg1<|qm rfl<|gF rfl hg1<|A0 (R5 rfl hb2 rfl) rfl<|gF rfl hg1<|A0 (A80 rfl rfl) rfl<|A0 (C6 rfl hg1 rfl) rfl<|ge 4 (by rw [hg1]; rfl) rfl rfl
 refine qm rfl<|es (ra1 rfl)<|C4 ?_
 obtain rfl:=os h
 exact retq trivial (B1 rfl B8) (A7 rfl B9) (A4 A8 B2)
def J4 (a0:(List Int)) (g1:(Int→Option Bool)) (s1:Int):Option (Int ⊕ (Int ⊕ Unit)) :=
 if (decide (s1 < (List.length a0:Int))) = true then
  (idx a0 s1).bind fun x4 =>
  (g1 x4).bind fun x5 =>
  if x5 = true then
  some (.inr (.inl s1))
  else
  some (.inl (w64 (s1 + 1)))
 else
  some (.inr (.inr ()))
def L3 (a0:(List Int)) (g1:(Int→Option Bool)):Option Int :=
 (loop (J4 a0 g1) 0).bind fun (o7:(Int ⊕ Unit)) =>
 match o7 with
 | (.inl vo7_0) =>
  some vo7_0
 | (.inr vo7_1) =>
  some (-1)
theorem A0u {c:Sc} {H:A1} {a0:(List Int)} {g1:Int→Option Bool} {g1_i:Nat} {g1_f g1_c:List AV} (g1_h:Impl tab H g1_i g1_f g1_c g1 (fun y=>[.i y]) (fun y=>[.b y])) {r:Int} (h:L3 a0 g1 = some r) :
  F0 tab c H (.fn (.func 81) [] []) [(.seq 1 (List.map cI a0)),.fn (.func g1_i) g1_f g1_c] [.i r]:= by
 unfold L3 at h
 refine cE rfl rfl<|s0<|qm rfl<|es (ra2 rfl rfl)<|B6<|s0<|qm rfl<|A0 (D4 (f:=cI) rfl) rfl<|qm rfl<|es (ra4 rfl rfl rfl rfl)<|C3<|oB h fun o7 ho7 h=>wl (fun s1=>[(0,(.seq 1 (List.map cI a0))),(1,(.fn (.func g1_i) g1_f g1_c)),(7,(.i (List.length a0:Int))),(8,.i s1)]) (fun (q2:Unit) s1=>[]) 0 (fun r e s' H'=>(match r with | (.inl v)=>e = .ret∧RetQ H [.tmp 4] [.i v] e s' H' | (.inr v)=>PX 0 [] (H++[]) e s' H':Prop)) () ho7 rfl rfl (fun _ _=>rfl) (fun _=>rfl) rfl (fun s1=>(bdc E6 (bdc (D2j g1_h.1) (bdc A8 (bdc A8 bdn))))) (fun q2 s1 ys1 hs1=>?_) ?_
 ·unfold J4 at hs1
  refine s0<|A0 (G3 rfl rfl) rfl<|es (ra5 rfl rfl rfl rfl rfl)<|B6<|wi hs1 rfl (fun hc3 hs1=>?_) fun hc3 hs1=>?_
  ·refine C1<|B6<|C3<|s0<|qm rfl<|qm rfl<|es (ra5 rfl rfl rfl rfl rfl)<|s0<|oB hs1 fun x4 hx4 hs1=>oB hs1 fun x5 hx5 hs1=>qm rfl<|qm rfl<|qm rfl<|A0 (E3 (f:=cI) rfl rfl hx4) rfl<|A0 (E9 rfl rfl) rfl<|B4 (rs:=[.b x5]) rfl rfl (A2 rfl B5) (Impl.call g1_h hx5 _)<|es (ra6 rfl rfl rfl rfl rfl rfl)<|wi hs1 rfl (fun hc6 hs1=>?_) fun hc6 hs1=>?_
   ·refine s0<|qm rfl<|qm rfl<|es (ra1 rfl)<|C4 ?_
    obtain rfl:=os hs1
    exact lx rfl (And.intro rfl (retq trivial (B1 rfl B8) (A7 rfl B9) (A4 A8 B2))) (Sub.refl _)
   ·refine C1<|r0<|A0 (E7 rfl rfl) rfl<|qm rfl<|en (ra4 rfl rfl rfl rfl) ?_
    cases hs1
    exact lnT () rfl (su4 rfl rfl rfl rfl)
  ·refine F3 ?_
   obtain rfl:=os hs1
   exact lx rfl px (.nil _)
 ·rcases o7 with vo7_0 | vo7_1
  ·rintro e s' H' - ⟨rfl,hret⟩
   cases h
   exact hret
  ·rintro e s' H' - ⟨rfl,rfl,rfl⟩
   refine s0<|qm rfl<|es (ra1 rfl)<|C4 ?_
   obtain rfl:=os h
   exact retq trivial (B1 rfl B8) (A7 rfl B9) (A4 A8 B2)
def P0 (a0:(List Int)) (g1:(Int→Option Bool)):Option Bool :=
 (L3 a0 g1).bind fun x1 =>
 some (decide (x1 ≥ 0))
theorem A3y {c:Sc} {H:A1} {a0:(List Int)} {g1:Int→Option Bool} {g1_i:Nat} {g1_f g1_c:List AV} (g1_h:Impl tab H g1_i g1_f g1_c g1 (fun y=>[.i y]) (fun y=>[.b y])) {r:Bool} (h:P0 a0 g1 = some r) :
  F0 tab c H (.fn (.func 89) [] []) [(.seq 1 (List.map cI a0)),.fn (.func g1_i) g1_f g1_c] [.b r]:= by
 unfold P0 at h
 refine cE rfl rfl<|s0<|qm rfl<|es (ra2 rfl rfl)<|s0<|oB h fun x1 hx1 h=>qm rfl<|qm rfl<|B4 (rs:=[.i x1]) rfl rfl (A2 rfl (A2 rfl B5)) ((A0u (Impl.app g1_h _) hx1).frz)<|A0 (A66 rfl rfl) rfl<|qm rfl<|es (ra1 rfl)<|C4 ?_
 obtain rfl:=os h
 exact retq trivial (B1 rfl B8) (A7 rfl B9) (A4 A8 B2)
def J6 (a0:Int) (a1:Int) (a2:(List Int)):Option Bool :=
 (P0 a2 (fun (y:Int)=>A0x y a0 a1)).bind fun x1 =>
 some x1
theorem M6 {c:Sc} {H:A1} {a0:Int} {a1:Int} {a2:(List Int)} {r:Bool} (h:J6 a0 a1 a2 = some r) :
  F0 tab c H (.fn (.func 53) [] []) [.i a0,.i a1,(.seq 1 (List.map cI a2))] [.b r]:= by
 unfold J6 at h
 refine cE rfl rfl<|sg 0 rfl<|A0 (F6 (cs:=cI a0) rfl rfl rfl) rfl<|A0 (F6 (cs:=cI a1) rfl rfl rfl) rfl<|qm rfl<|es (ra3 rfl rfl rfl)<|s0<|oB h fun x1 hx1 h=>qm rfl<|A0 (A8f rfl rfl) rfl<|B4 (rs:=[.b x1]) rfl rfl (A2 rfl (A2 rfl B5)) ((A3y (show Impl _ _ 90 [] [(.ptr (H.length + 0) 0),(.ptr (H.length + 1) 0)] (fun (y:Int)=>A0x y a0 a1) (fun (y:Int)=>[.i y]) (fun (y:Bool)=>[.b y]) from ⟨⟨B2,(by rw [List.length_append]; exact (A4 (E8 rfl) (A4 (E8 rfl) B2)))⟩,fun H' hle hag c y r hr=>(A98 (B3h (hag _ _ (D7 rfl)) (hag _ _ (D7 rfl)) hr)).frz⟩) hx1).frz)<|qm rfl<|es (ra1 rfl)<|C4 ?_
 obtain rfl:=os h
 exact retq trivial (B1 rfl B8) (A7 rfl B9) (A4 A8 B2)
def V5 (a0:Int) (a1:Int):Option Bool :=
 (J6 0 a1 [a0]).bind fun x1 =>
 some x1
theorem B1t {c:Sc} {H:A1} {a0:Int} {a1:Int} {b1:Nat} (hb1:hcells H b1 = some (cI a1)) {r:Bool} (h:V5 a0 a1 = some r) :
  F0 tab c H (.fn (.func 82) [] []) [.i a0,.ptr b1 0] [.b r]:= by
 unfold V5 at h
 refine cE rfl rfl<|s0<|qm rfl<|es (ra2 rfl rfl)<|s0<|oB h fun x1 hx1 h=>A0 (R5 rfl hb1 rfl) rfl<|qm rfl<|A0 (G2 (rows:=List.map cI [a0]) rfl rfl (D8 (fun _=>rfl) _)) rfl<|B4 (rs:=[.b x1]) rfl rfl (A2 rfl (A2 rfl (A2 rfl B5))) ((M6 hx1).frz)<|qm rfl<|es (ra1 rfl)<|C4 ?_
 obtain rfl:=os h
 exact retq trivial (B1 rfl B8) (A7 rfl B9) (A4 A8 B2)
def A0k (a0:(List Int)) (a1:Int) (a2:Int):Option (Int × Int) :=
 (J6 1 a1 [(List.length a0:Int)]).bind fun x1 =>
 if x1 = true then
  some (0,3)
 else
  (L3 a0 (fun (y:Int)=>V5 y a2)).bind fun x3 =>
  if (decide (x3 ≥ 0)) = true then
  some (x3,7)
  else
  some (0,0)
theorem A7i {c:Sc} {H:A1} {a0:(List Int)} {a1:Int} {a2:Int} {r:(Int × Int)} (h:A0k a0 a1 a2 = some r) :
  F0 tab c H (.fn (.func 48) [] []) [(.seq 1 (List.map cI a0)),.i a1,.i a2] [.i r.1,.i r.2]:= by
 unfold A0k at h
 refine cE rfl rfl<|sg 0 rfl<|A0 (F6 (cs:=cI a2) rfl rfl rfl) rfl<|qm rfl<|qm rfl<|es (ra3 rfl rfl rfl)<|B6<|s0<|oB h fun x1 hx1 h=>qm rfl<|qm rfl<|A0 (D4 (f:=cI) rfl) rfl<|A0 (G2 (rows:=List.map cI [(List.length a0:Int)]) rfl rfl (D8 (fun _=>rfl) _)) rfl<|B4 (rs:=[.b x1]) rfl rfl (A2 rfl (A2 rfl (A2 rfl B5))) ((M6 hx1).frz)<|es (ra3 rfl rfl rfl)<|wi h rfl (fun hc2 h=>?_) fun hc2 h=>?_
 ·refine s0<|qm rfl<|qm rfl<|es (ra2 rfl rfl)<|C4 ?_
  obtain rfl:=os h
  exact retq trivial (B1 rfl (B1 rfl B8)) (A7 rfl (A7 rfl B9)) (A4 A8 (A4 A8 B2))
 ·refine C1<|B6<|s0<|oB h fun x3 hx3 h=>qm rfl<|A0 (A8f rfl rfl) rfl<|B4 (rs:=[.i x3]) rfl rfl (A2 rfl (A2 rfl B5)) ((A0u (show Impl _ _ 82 [] [(.ptr (H.length + 0) 0)] (fun (y:Int)=>V5 y a2) (fun (y:Int)=>[.i y]) (fun (y:Bool)=>[.b y]) from ⟨⟨B2,(by rw [List.length_append]; exact (A4 (E8 rfl) B2))⟩,fun H' hle hag c y r hr=>(A98 (B1t (hag _ _ (D7 rfl)) hr)).frz⟩) hx3).frz)<|qm rfl<|es (ra1 rfl)<|s0<|qm rfl<|A0 (A66 rfl rfl) rfl<|es (ra2 rfl rfl)<|wi h rfl (fun hc4 h=>?_) fun hc4 h=>?_
  ·refine s0<|qm rfl<|qm rfl<|qm rfl<|es (ra2 rfl rfl)<|C4 ?_
   obtain rfl:=os h
   exact retq trivial (B1 rfl (B1 rfl B8)) (A7 rfl (A7 rfl B9)) (A4 A8 (A4 A8 B2))
  ·refine C1<|s0<|qm rfl<|qm rfl<|es (ra2 rfl rfl)<|C4 ?_
   obtain rfl:=os h
   exact retq trivial (B1 rfl (B1 rfl B8)) (A7 rfl (A7 rfl B9)) (A4 A8 (A4 A8 B2))
def A0y (a0:DrLook) (a1:DrLook):Option Bool :=
 some (eqS a0.Name a1.Name)
theorem B3i {c:Sc} {H:A1} {a0:DrLook} {a1:DrLook} {b1:Nat} (hb1:hcells H b1 = some (A6 a1)) {r:Bool} (h:A0y a0 a1 = some r) :
  F0 tab c H (.fn (.func 85) [] []) [(.agg (A6 a0)),.ptr b1 0] [.b r]:= by
 unfold A0y at h
 refine cE rfl rfl<|sg 0 rfl<|A0 (F6 (cs:=A6 a0) rfl rfl rfl) rfl<|qm rfl<|es (ra2 rfl rfl)<|s0<|A0 (D2 rfl) rfl<|A0 (C8 rfl rfl rfl) rfl<|A0 (D2 rfl) rfl<|A0 (R5 rfl hb1 rfl) rfl<|A0 (D7f rfl rfl) rfl<|qm rfl<|es (ra1 rfl)<|C4 ?_
 obtain rfl:=os h
 exact retq trivial (B1 rfl B8) (A7 rfl B9) (A4 A8 B2)
def A11 (a0:ByteArray) (s1:Nat):Option (Nat ⊕ (Bool ⊕ Nat)) :=
 if (decide (s1 < ByteArray.size a0)) = true then
  if ((!((decide (97≤((Utf8.decode a0 s1).1:Int))) && (decide (((Utf8.decode a0 s1).1:Int)≤122)))) && (((s1:Int) == 0) || ((((Utf8.decode a0 s1).1:Int) != 46) && ((decide (((Utf8.decode a0 s1).1:Int) < 48)) || (decide (((Utf8.decode a0 s1).1:Int) > 57)))))) = true then
  some (.inr (.inl false))
  else
  some (.inl (s1 + (Utf8.decode a0 s1).2))
 else
  some (.inr (.inr s1))
def A5u (a0:ByteArray):Option Bool :=
 (loop (A11 a0) (0:Nat)).bind fun (o10:(Bool ⊕ Nat)) =>
 match o10 with
 | (.inl vo10_0) =>
  some vo10_0
 | (.inr vo10_1) =>
  some ((!eqS a0 (ByteArray.mk #[])) && (decide ((ByteArray.size a0:Int)≤16)))
theorem B95 {c:Sc} {H:A1} {a0:ByteArray} {r:Bool} (h:A5u a0 = some r) :
  F0 tab c H (.fn (.func 83) [] []) [.s a0] [.b r]:= by
 unfold A5u at h
 refine cE rfl rfl<|s0<|qm rfl<|es (ra1 rfl)<|B6<|sg 0 rfl<|qm rfl<|A0 (D6j rfl) rfl<|es (ra2 rfl rfl)<|C3<|oB h fun o10 ho10 h=>wl (fun s1=>[(0,.s a0),(7,(.itr (H.length + 0)))]) (fun (q2:Unit) s1=>[.iter a0 s1]) 1 (fun r e s' H'=>(match r with | (.inl v)=>e = .ret∧RetQ H [.tmp 2] [.b v] e s' H' | (.inr v)=>PX 0 [(0,.s a0)] (H++[.iter a0 v]) e s' H':Prop)) () ho10 rfl rfl (fun _ _=>rfl) (fun _=>rfl) rfl (fun s1=>(bdc A8 (bdc (D7x rfl) bdn))) (fun q2 s1 ys1 hs1=>?_) ?_
 ·unfold A11 at hs1
  by_cases hc3:(decide (s1 < ByteArray.size a0)) = true
  ·rw [if_pos hc3] at hs1
   refine s0<|R2 (D6h rfl rfl (of_decide_eq_true hc3)) rfl<|A0 (A5 rfl rfl) rfl<|es (ra4 rfl rfl rfl rfl)<|B6<|T0 rfl rfl<|C1<|C3<|s0<|A0 (A5 rfl rfl) rfl<|A0 (A5 rfl rfl) rfl<|qm rfl<|qm rfl<|es (ra4 rfl rfl rfl rfl)<|s0<|qm rfl<|A0 (C0k rfl rfl) rfl<|qm rfl<|gp 3 17 (.b ((decide (97≤((Utf8.decode a0 s1).1:Int))) && (decide (((Utf8.decode a0 s1).1:Int)≤122)))) 14 rfl rfl (fun hg4=>?_) (fun hg4=>?_) ?_
   ·exact gT rfl hg4<|qm rfl<|gT rfl hg4<|A0 (C0k rfl rfl) rfl<|A0 (C7 rfl hg4 rfl) rfl<|ge 3 (by rw [hg4]; rfl) rfl rfl
   ·exact nT rfl hg4 rfl<|nT rfl hg4 rfl<|A0 (C6 rfl hg4 rfl) rfl<|ge 3 (by rw [hg4]; rfl) rfl rfl
   refine qm rfl<|es (ra5 rfl rfl rfl rfl rfl)<|s0<|qm rfl<|A0 (S7 rfl) rfl<|qm rfl<|gp 15 35 (.b ((!((decide (97≤((Utf8.decode a0 s1).1:Int))) && (decide (((Utf8.decode a0 s1).1:Int)≤122)))) && (((s1:Int) == 0) || ((((Utf8.decode a0 s1).1:Int) != 46) && ((decide (((Utf8.decode a0 s1).1:Int) < 48)) || (decide (((Utf8.decode a0 s1).1:Int) > 57))))))) 20 rfl rfl (fun hg5=>?_) (fun hg5=>?_) ?_
   ·refine gT rfl hg5<|qm rfl<|gT rfl hg5<|A0 (F7 rfl rfl) rfl<|gT rfl hg5<|qm rfl<|gq 11 34 (.b (((s1:Int) == 0) || ((((Utf8.decode a0 s1).1:Int) != 46) && ((decide (((Utf8.decode a0 s1).1:Int) < 48)) || (decide (((Utf8.decode a0 s1).1:Int) > 57)))))) 23 rfl rfl (fun hg6=>?_) (fun hg6=>?_) ?_
    ·exact nF rfl hg6 rfl<|nF rfl hg6 rfl<|nF rfl hg6 rfl<|nX rfl rfl<|nX rfl rfl<|nX rfl rfl<|nX rfl rfl<|nX rfl rfl<|nX rfl rfl<|nF rfl hg6 rfl<|gT rfl hg5<|A0 (C7 rfl hg6 rfl) rfl<|ge 11 (by rw [hg6]; rfl) rfl rfl
    ·refine gF rfl hg6<|qm rfl<|gF rfl hg6<|A0 (J1 rfl rfl) rfl<|gF rfl hg6<|qm rfl<|gq 7 33 (.b ((((Utf8.decode a0 s1).1:Int) != 46) && ((decide (((Utf8.decode a0 s1).1:Int) < 48)) || (decide (((Utf8.decode a0 s1).1:Int) > 57))))) 26 rfl rfl (fun hg7=>?_) (fun hg7=>?_) ?_
     ·refine gT rfl hg7<|qm rfl<|gT rfl hg7<|A0 (G3 rfl rfl) rfl<|gT rfl hg7<|qm rfl<|gq 3 32 (.b ((decide (((Utf8.decode a0 s1).1:Int) < 48)) || (decide (((Utf8.decode a0 s1).1:Int) > 57)))) 29 rfl rfl (fun hg8=>?_) (fun hg8=>?_) ?_
      ·exact nF rfl hg8 rfl<|nF rfl hg8 rfl<|gT rfl hg7<|A0 (C7 rfl hg8 rfl) rfl<|ge 3 (by rw [hg8]; rfl) rfl rfl
      ·exact gF rfl hg8<|qm rfl<|gF rfl hg8<|A0 (A80 rfl rfl) rfl<|gT rfl hg7<|A0 (C6 rfl hg8 rfl) rfl<|ge 3 (by rw [hg8]; rfl) rfl rfl
      exact gF rfl hg6<|A0 (C7 rfl hg7 rfl) rfl<|ge 5 (by rw [hg7]; rfl) rfl rfl
     ·exact nT rfl hg7 rfl<|nT rfl hg7 rfl<|nT rfl hg7 rfl<|nX rfl rfl<|nX rfl rfl<|nT rfl hg7 rfl<|gF rfl hg6<|A0 (C6 rfl hg7 rfl) rfl<|ge 7 (by rw [hg7]; rfl) rfl rfl
     exact gT rfl hg5<|A0 (C6 rfl hg6 rfl) rfl<|ge 5 (by rw [hg6]; rfl) rfl rfl
    exact A0 (C7 rfl hg5 rfl) rfl<|ge 5 (by rw [hg5]; rfl) rfl rfl
   ·exact nT rfl hg5 rfl<|nT rfl hg5 rfl<|nT rfl hg5 rfl<|nX rfl rfl<|nX rfl rfl<|nX rfl rfl<|nX rfl rfl<|nX rfl rfl<|nX rfl rfl<|nX rfl rfl<|nX rfl rfl<|nX rfl rfl<|nX rfl rfl<|nT rfl hg5 rfl<|A0 (C6 rfl hg5 rfl) rfl<|ge 15 (by rw [hg5]; rfl) rfl rfl
   refine es (ra3 rfl rfl rfl)<|wi hs1 rfl (fun hc9 hs1=>?_) fun hc9 hs1=>?_
   ·refine s0<|qm rfl<|es (ra1 rfl)<|C4 ?_
    obtain rfl:=os hs1
    exact lx rfl (And.intro rfl (retq trivial (B1 rfl B8) (A7 rfl B9) (A4 A8 B2))) (Sub.refl _)
   ·refine C1 ?_
    cases hs1
    exact lnT () rfl (su2 rfl rfl)
  ·rw [if_neg hc3] at hs1
   refine s0<|R2 (D6g rfl rfl (fun hn=>hc3 (decide_eq_true hn))) rfl<|A0 (A5 rfl rfl) rfl<|es (ra4 rfl rfl rfl rfl)<|B6<|A0e rfl rfl<|F3 ?_
   obtain rfl:=os hs1
   exact lx rfl px (su1 rfl)
 ·rcases o10 with vo10_0 | vo10_1
  ·rintro e s' H' - ⟨rfl,hret⟩
   cases h
   exact hret
  ·rintro e s' H' - ⟨rfl,rfl,rfl⟩
   refine s0<|qm rfl<|A0 (D91 rfl rfl) rfl<|qm rfl<|gp 4 42 (.b ((!eqS a0 (ByteArray.mk #[])) && (decide ((ByteArray.size a0:Int)≤16)))) 38 rfl rfl (fun hg11=>?_) (fun hg11=>?_) ?_
   ·exact gT rfl hg11<|qm rfl<|gT rfl hg11<|A0 (C22 rfl) rfl<|gT rfl hg11<|A0 (C0k rfl rfl) rfl<|A0 (C7 rfl hg11 rfl) rfl<|ge 4 (by rw [hg11]; rfl) rfl rfl
   ·exact nT rfl hg11 rfl<|nT rfl hg11 rfl<|nT rfl hg11 rfl<|A0 (C6 rfl hg11 rfl) rfl<|ge 4 (by rw [hg11]; rfl) rfl rfl
   refine qm rfl<|es (ra1 rfl)<|C4 ?_
   obtain rfl:=os h
   exact retq trivial (B1 rfl B8) (A7 rfl B9) (A4 A8 B2)
def K9 (a0:(List DrLook)) (g1:(DrLook→Option Bool)) (s1:Int):Option (Int ⊕ (Int ⊕ Unit)) :=
 if (decide (s1 < (List.length a0:Int))) = true then
  (idx a0 s1).bind fun x4 =>
  (g1 x4).bind fun x5 =>
  if x5 = true then
  some (.inr (.inl s1))
  else
  some (.inl (w64 (s1 + 1)))
 else
  some (.inr (.inr ()))
def M4 (a0:(List DrLook)) (g1:(DrLook→Option Bool)):Option Int :=
 (loop (K9 a0 g1) 0).bind fun (o7:(Int ⊕ Unit)) =>
 match o7 with
 | (.inl vo7_0) =>
  some vo7_0
 | (.inr vo7_1) =>
  some (-1)
theorem A0g {c:Sc} {H:A1} {a0:(List DrLook)} {g1:DrLook→Option Bool} {g1_i:Nat} {g1_f g1_c:List AV} (g1_h:Impl tab H g1_i g1_f g1_c g1 (fun y=>[(.agg (A6 y))]) (fun y=>[.b y])) {r:Int} (h:M4 a0 g1 = some r) :
  F0 tab c H (.fn (.func 102) [] []) [(.seq 3 (List.map A6 a0)),.fn (.func g1_i) g1_f g1_c] [.i r]:= by
 unfold M4 at h
 refine cE rfl rfl<|s0<|qm rfl<|es (ra2 rfl rfl)<|B6<|s0<|qm rfl<|A0 (D4 (f:=A6) rfl) rfl<|qm rfl<|es (ra4 rfl rfl rfl rfl)<|C3<|oB h fun o7 ho7 h=>wl (fun s1=>[(0,(.seq 3 (List.map A6 a0))),(1,(.fn (.func g1_i) g1_f g1_c)),(7,(.i (List.length a0:Int))),(8,.i s1)]) (fun (q2:Unit) s1=>[]) 0 (fun r e s' H'=>(match r with | (.inl v)=>e = .ret∧RetQ H [.tmp 4] [.i v] e s' H' | (.inr v)=>PX 0 [] (H++[]) e s' H':Prop)) () ho7 rfl rfl (fun _ _=>rfl) (fun _=>rfl) rfl (fun s1=>(bdc E6 (bdc (D2j g1_h.1) (bdc A8 (bdc A8 bdn))))) (fun q2 s1 ys1 hs1=>?_) ?_
 ·unfold K9 at hs1
  refine s0<|A0 (G3 rfl rfl) rfl<|es (ra5 rfl rfl rfl rfl rfl)<|B6<|wi hs1 rfl (fun hc3 hs1=>?_) fun hc3 hs1=>?_
  ·refine C1<|B6<|C3<|s0<|qm rfl<|qm rfl<|es (ra5 rfl rfl rfl rfl rfl)<|s0<|oB hs1 fun x4 hx4 hs1=>oB hs1 fun x5 hx5 hs1=>qm rfl<|qm rfl<|qm rfl<|A0 (E3 (f:=A6) rfl rfl hx4) rfl<|A0 (M2 rfl rfl) rfl<|B4 (rs:=[.b x5]) rfl rfl (A2 (C9 rfl) B5) (Impl.call g1_h hx5 _)<|es (ra6 rfl rfl rfl rfl rfl rfl)<|wi hs1 rfl (fun hc6 hs1=>?_) fun hc6 hs1=>?_
   ·refine s0<|qm rfl<|qm rfl<|es (ra1 rfl)<|C4 ?_
    obtain rfl:=os hs1
    exact lx rfl (And.intro rfl (retq trivial (B1 rfl B8) (A7 rfl B9) (A4 A8 B2))) (Sub.refl _)
   ·refine C1<|r0<|A0 (E7 rfl rfl) rfl<|qm rfl<|en (ra4 rfl rfl rfl rfl) ?_
    cases hs1
    exact lnT () rfl (su4 rfl rfl rfl rfl)
  ·refine F3 ?_
   obtain rfl:=os hs1
   exact lx rfl px (.nil _)
 ·rcases o7 with vo7_0 | vo7_1
  ·rintro e s' H' - ⟨rfl,hret⟩
   cases h
   exact hret
  ·rintro e s' H' - ⟨rfl,rfl,rfl⟩
   refine s0<|qm rfl<|es (ra1 rfl)<|C4 ?_
   obtain rfl:=os h
   exact retq trivial (B1 rfl B8) (A7 rfl B9) (A4 A8 B2)
def I2 (a0:(List DrLook)) (g1:(DrLook→Option Bool)):Option Bool :=
 (M4 a0 g1).bind fun x1 =>
 some (decide (x1 ≥ 0))
theorem X7 {c:Sc} {H:A1} {a0:(List DrLook)} {g1:DrLook→Option Bool} {g1_i:Nat} {g1_f g1_c:List AV} (g1_h:Impl tab H g1_i g1_f g1_c g1 (fun y=>[(.agg (A6 y))]) (fun y=>[.b y])) {r:Bool} (h:I2 a0 g1 = some r) :
  F0 tab c H (.fn (.func 84) [] []) [(.seq 3 (List.map A6 a0)),.fn (.func g1_i) g1_f g1_c] [.b r]:= by
 unfold I2 at h
 refine cE rfl rfl<|s0<|qm rfl<|es (ra2 rfl rfl)<|s0<|oB h fun x1 hx1 h=>qm rfl<|qm rfl<|B4 (rs:=[.i x1]) rfl rfl (A2 rfl (A2 rfl B5)) ((A0g (Impl.app g1_h _) hx1).frz)<|A0 (A66 rfl rfl) rfl<|qm rfl<|es (ra1 rfl)<|C4 ?_
 obtain rfl:=os h
 exact retq trivial (B1 rfl B8) (A7 rfl B9) (A4 A8 B2)
def A0f (a0:DrRoom) (a1:(List DrLook)) (a3:Int) (s2:Int):Option (Int ⊕ ((Int × Int) ⊕ Unit)) :=
 if (decide (s2 < (List.length a1:Int))) = true then
  (idx a1 s2).bind fun x5 =>
  (A5u x5.Name).bind fun x6 =>
  if (!x6) = true then
  some (.inr (.inl (s2,6)))
  else
  (slc a1 0 s2).bind fun x8 =>
  (I2 x8 (fun (y:DrLook)=>A0y y x5)).bind fun x9 =>
  if x9 = true then
   some (.inr (.inl (s2,5)))
  else
   if ((List.length x5.Looks:Int) != (List.length a0.Costs:Int)) = true then
   some (.inr (.inl (s2,3)))
   else
   (idx x5.Looks 0).bind fun x12 =>
   (J6 a3 (w64 ((List.length a0.Ounces:Int) - 1)) [x12]).bind fun x13 =>
   if x13 = true then
    some (.inr (.inl (s2,4)))
   else
    (slc x5.Looks 1 (List.length x5.Looks:Int)).bind fun x15 =>
    (J6 a3 5 x15).bind fun x16 =>
    (if x16 = true then
    some true
    else
    (J6 0 50 [x5.Hair]).bind fun x18 =>
    some x18).bind fun x19 =>
    if x19 = true then
    some (.inr (.inl (s2,7)))
    else
    some (.inl (w64 (s2 + 1)))
 else
  some (.inr (.inr ()))
def A1e (a0:DrRoom) (a1:(List DrLook)) (a2:Int) (a3:Int):Option (Int × Int) :=
 if (decide ((List.length a1:Int) > a2)) = true then
  some (0,3)
 else
  (loop (A0f a0 a1 a3) 0).bind fun (o21:((Int × Int) ⊕ Unit)) =>
  match o21 with
  | (.inl vo21_0) =>
  some vo21_0
  | (.inr vo21_1) =>
  some (0,0)
theorem A8s {c:Sc} {H:A1} {a0:DrRoom} {a1:(List DrLook)} {a2:Int} {a3:Int} {r:(Int × Int)} (h:A1e a0 a1 a2 a3 = some r) :
  F0 tab c H (.fn (.func 49) [] []) [(.agg (A3 a0)),(.seq 3 (List.map A6 a1)),.i a2,.i a3] [.i r.1,.i r.2]:= by
 unfold A1e at h
 refine cE rfl rfl<|sg 0 rfl<|A0 (F6 (cs:=A3 a0) rfl rfl rfl) rfl<|qm rfl<|qm rfl<|es (ra5 rfl rfl rfl rfl rfl)<|B6<|s0<|qm rfl<|A0 (D4 (f:=A6) rfl) rfl<|qm rfl<|A0 (A80 rfl rfl) rfl<|es (ra5 rfl rfl rfl rfl rfl)<|wi h rfl (fun hc1 h=>?_) fun hc1 h=>?_
 ·refine s0<|qm rfl<|qm rfl<|es (ra2 rfl rfl)<|C4 ?_
  obtain rfl:=os h
  exact retq trivial (B1 rfl (B1 rfl B8)) (A7 rfl (A7 rfl B9)) (A4 A8 (A4 A8 B2))
 ·refine C1<|B6<|s0<|qm rfl<|A0 (D4 (f:=A6) rfl) rfl<|qm rfl<|es (ra7 rfl rfl rfl rfl rfl rfl rfl)<|C3<|oB h fun o21 ho21 h=>wl (fun s2=>[(1,(.seq 3 (List.map A6 a1))),(3,.i a3),(4,(.ptr (H.length + 0) 0)),(9,.i 0),(16,(.seq 3 (List.map A6 a1))),(17,(.i (List.length a1:Int))),(18,.i s2)]) (fun (q3:Unit) s2=>[(.cells (A3 a0))]) 1 (fun r e s' H'=>(match r with | (.inl v)=>e = .ret∧RetQ H [.tmp 8,.tmp 9] [.i v.1,.i v.2] e s' H' | (.inr v)=>PX 0 [] (H++[(.cells (A3 a0))]) e s' H':Prop)) () ho21 rfl rfl (fun _ _=>rfl) (fun _=>rfl) rfl (fun s2=>(bdc E6 (bdc A8 (bdc (E8 rfl) (bdc A8 (bdc E6 (bdc A8 (bdc A8 bdn)))))))) (fun q3 s2 ys2 hs2=>?_) ?_
  ·unfold A0f at hs2
   refine s0<|A0 (G3 rfl rfl) rfl<|es (ra8 rfl rfl rfl rfl rfl rfl rfl rfl)<|B6<|wi hs2 rfl (fun hc4 hs2=>?_) fun hc4 hs2=>?_
   ·refine C1<|B6<|C3<|sg 1 rfl<|oB hs2 fun x5 hx5 hs2=>qm rfl<|A0 (E3 (f:=A6) rfl rfl hx5) rfl<|A0 (M2 rfl rfl) rfl<|A0 E4 rfl<|qm rfl<|I0 (D1 (ds:=(A6 x5)) rfl rfl rfl rfl (C5 rfl) rfl) rfl<|es (ra9 rfl rfl rfl rfl rfl rfl rfl rfl rfl)<|B6<|C3<|s0<|oB hs2 fun x6 hx6 hs2=>A0 (D2 rfl) rfl<|A0 (C8 rfl rfl rfl) rfl<|B4 (rs:=[.b x6]) rfl rfl (A2 rfl B5) ((B95 hx6).frz)<|A0 (S7 rfl) rfl<|qm rfl<|es (ra10 rfl rfl rfl rfl rfl rfl rfl rfl rfl rfl)<|wi hs2 rfl (fun hc7 hs2=>?_) fun hc7 hs2=>?_
    ·refine r0<|qm rfl<|en (ra8 rfl rfl rfl rfl rfl rfl rfl rfl)<|s0<|qm rfl<|A0 (O4 (v:=(.b true)) rfl rfl rfl) rfl<|es (ra9 rfl rfl rfl rfl rfl rfl rfl rfl rfl)<|T0 rfl rfl<|s0<|qm rfl<|qm rfl<|qm rfl<|qm rfl<|es (ra2 rfl rfl)<|C4 ?_
     obtain rfl:=os hs2
     exact lx rfl (And.intro rfl (retq trivial (B1 rfl (B1 rfl B8)) (A7 rfl (A7 rfl B9)) (A4 A8 (A4 A8 B2)))) (Sub.refl _)
    ·refine s0<|oB hs2 fun x8 hx8 hs2=>oB hs2 fun x9 hx9 hs2=>qm rfl<|qm rfl<|A0 (B3e (f:=A6) rfl rfl rfl hx8) rfl<|A0 (A8f rfl rfl) rfl<|B4 (rs:=[.b x9]) rfl rfl (A2 rfl (A2 rfl B5)) ((X7 (show Impl _ _ 85 [] [(.ptr (H.length + 1) 0)] (fun (y:DrLook)=>A0y y x5) (fun (y:DrLook)=>[(.agg (A6 y))]) (fun (y:Bool)=>[.b y]) from ⟨⟨B2,(by rw [List.length_append]; exact (A4 (E8 rfl) B2))⟩,fun H' hle hag c y r hr=>(A98 (B3i (hag _ _ (D7 rfl)) hr)).frz⟩) hx9).frz)<|qm rfl<|es (ra10 rfl rfl rfl rfl rfl rfl rfl rfl rfl rfl)<|wi hs2 rfl (fun hc10 hs2=>?_) fun hc10 hs2=>?_
     ·refine r0<|qm rfl<|en (ra8 rfl rfl rfl rfl rfl rfl rfl rfl)<|s0<|qm rfl<|A0 (O4 (v:=(.b true)) rfl rfl rfl) rfl<|es (ra9 rfl rfl rfl rfl rfl rfl rfl rfl rfl)<|T0 rfl rfl<|s0<|qm rfl<|qm rfl<|qm rfl<|qm rfl<|es (ra2 rfl rfl)<|C4 ?_
      obtain rfl:=os hs2
      exact lx rfl (And.intro rfl (retq trivial (B1 rfl (B1 rfl B8)) (A7 rfl (A7 rfl B9)) (A4 A8 (A4 A8 B2)))) (Sub.refl _)
     ·refine s0<|A0 (D2 rfl) rfl<|A0 (C8 rfl rfl rfl) rfl<|A0 (D4 (f:=cI) rfl) rfl<|A0 (D2 rfl) rfl<|A0 (C8 rfl rfl rfl) rfl<|A0 (D4 (f:=cI) rfl) rfl<|A0 (J1 rfl rfl) rfl<|qm rfl<|es (ra10 rfl rfl rfl rfl rfl rfl rfl rfl rfl rfl)<|wi hs2 rfl (fun hc11 hs2=>?_) fun hc11 hs2=>?_
      ·refine r0<|qm rfl<|en (ra8 rfl rfl rfl rfl rfl rfl rfl rfl)<|s0<|qm rfl<|A0 (O4 (v:=(.b true)) rfl rfl rfl) rfl<|es (ra9 rfl rfl rfl rfl rfl rfl rfl rfl rfl)<|T0 rfl rfl<|s0<|qm rfl<|qm rfl<|qm rfl<|qm rfl<|es (ra2 rfl rfl)<|C4 ?_
       obtain rfl:=os hs2
       exact lx rfl (And.intro rfl (retq trivial (B1 rfl (B1 rfl B8)) (A7 rfl (A7 rfl B9)) (A4 A8 (A4 A8 B2)))) (Sub.refl _)
      ·refine s0<|oB hs2 fun x12 hx12 hs2=>oB hs2 fun x13 hx13 hs2=>qm rfl<|A0 (D2 rfl) rfl<|A0 (C8 rfl rfl rfl) rfl<|A0 (D4 (f:=cI) rfl) rfl<|A0 (Y8 rfl rfl) rfl<|A0 (D2 rfl) rfl<|A0 (C8 rfl rfl rfl) rfl<|A0 (E3 (f:=cI) rfl rfl hx12) rfl<|A0 (E9 rfl rfl) rfl<|A0 (G2 (rows:=List.map cI [x12]) rfl rfl (D8 (fun _=>rfl) _)) rfl<|B4 (rs:=[.b x13]) rfl rfl (A2 rfl (A2 rfl (A2 rfl B5))) ((M6 hx13).frz)<|qm rfl<|es (ra10 rfl rfl rfl rfl rfl rfl rfl rfl rfl rfl)<|wi hs2 rfl (fun hc14 hs2=>?_) fun hc14 hs2=>?_
       ·refine r0<|qm rfl<|en (ra8 rfl rfl rfl rfl rfl rfl rfl rfl)<|s0<|qm rfl<|A0 (O4 (v:=(.b true)) rfl rfl rfl) rfl<|es (ra9 rfl rfl rfl rfl rfl rfl rfl rfl rfl)<|T0 rfl rfl<|s0<|qm rfl<|qm rfl<|qm rfl<|qm rfl<|es (ra2 rfl rfl)<|C4 ?_
        obtain rfl:=os hs2
        exact lx rfl (And.intro rfl (retq trivial (B1 rfl (B1 rfl B8)) (A7 rfl (A7 rfl B9)) (A4 A8 (A4 A8 B2)))) (Sub.refl _)
       ·refine s0<|oB hs2 fun x15 hx15 hs2=>oB hs2 fun x16 hx16 hs2=>oB hs2 fun x19 hx19 hs2=>qm rfl<|A0 (D2 rfl) rfl<|A0 (C8 rfl rfl rfl) rfl<|A0 (B3e (f:=cI) rfl rfl rfl hx15) rfl<|B4 (rs:=[.b x16]) rfl rfl (A2 rfl (A2 rfl (A2 rfl B5))) ((M6 hx16).frz)<|qm rfl<|gp 5 65 (.b x19) 60 rfl rfl (fun hg17=>?_) (fun hg17=>?_) ?_
        ·obtain rfl:=os (bt hx19 hg17)
         exact nF rfl hg17 rfl<|nF rfl hg17 rfl<|nF rfl hg17 rfl<|O0 (G7 rfl (by rw [hg17]; rfl)) rfl<|A0 (C7 rfl hg17 rfl) rfl<|ge 5 rfl rfl rfl
        ·refine oB (bf hx19 hg17) fun x18 hx18 hx19=>?_
         obtain rfl:=os hx19
         exact gF rfl hg17<|A0 (D2 rfl) rfl<|gF rfl hg17<|A0 (C8 rfl rfl rfl) rfl<|gF rfl hg17<|A0 (G2 (rows:=List.map cI [x5.Hair]) rfl rfl (D8 (fun _=>rfl) _)) rfl<|gF rfl hg17<|B4 (rs:=[.b x18]) rfl rfl (A2 rfl (A2 rfl (A2 rfl B5))) ((M6 hx18).frz)<|A0 (C6 rfl hg17 rfl) rfl<|ge 5 rfl rfl rfl
        refine qm rfl<|es (ra9 rfl rfl rfl rfl rfl rfl rfl rfl rfl)<|wi hs2 rfl (fun hc20 hs2=>?_) fun hc20 hs2=>?_
        ·refine r0<|qm rfl<|en (ra8 rfl rfl rfl rfl rfl rfl rfl rfl)<|s0<|qm rfl<|A0 (O4 (v:=(.b true)) rfl rfl rfl) rfl<|es (ra9 rfl rfl rfl rfl rfl rfl rfl rfl rfl)<|T0 rfl rfl<|s0<|qm rfl<|qm rfl<|qm rfl<|qm rfl<|es (ra2 rfl rfl)<|C4 ?_
         obtain rfl:=os hs2
         exact lx rfl (And.intro rfl (retq trivial (B1 rfl (B1 rfl B8)) (A7 rfl (A7 rfl B9)) (A4 A8 (A4 A8 B2)))) (Sub.refl _)
        ·refine C1<|s0<|qm rfl<|A0 (O4 (v:=(.b false)) rfl rfl rfl) rfl<|es (ra9 rfl rfl rfl rfl rfl rfl rfl rfl rfl)<|A0e rfl rfl<|C1<|r0<|A0 (E7 rfl rfl) rfl<|qm rfl<|en (ra7 rfl rfl rfl rfl rfl rfl rfl) ?_
         cases hs2
         exact lnT () rfl (su7 rfl rfl rfl rfl rfl rfl rfl)
   ·refine F3 ?_
    obtain rfl:=os hs2
    exact lx rfl px (.nil _)
  ·rcases o21 with vo21_0 | vo21_1
   ·rintro e s' H' - ⟨rfl,hret⟩
    cases h
    exact hret
   ·rintro e s' H' - ⟨rfl,rfl,rfl⟩
    refine s0<|qm rfl<|qm rfl<|es (ra2 rfl rfl)<|C4 ?_
    obtain rfl:=os h
    exact retq trivial (B1 rfl (B1 rfl B8)) (A7 rfl (A7 rfl B9)) (A4 A8 (A4 A8 B2))
def M0 (a0:DrRoom):Option (Int × Int × Int) :=
 (A0k a0.Costs 4 100).bind fun x1 =>
 if (x1.2 != 0) = true then
  some (1,x1.1,x1.2)
 else
  (A0k a0.Ounces 4 50).bind fun x3 =>
  if (x3.2 != 0) = true then
  some (2,x3.1,x3.2)
  else
  (A1e a0 a0.Figures 6 0).bind fun x5 =>
  if (x5.2 != 0) = true then
   some (3,x5.1,x5.2)
  else
   (A1e a0 a0.Persons 5 (-1)).bind fun x7 =>
   if (x7.2 != 0) = true then
   some (4,x7.1,x7.2)
   else
   some (0,0,0)
theorem U6 {c:Sc} {H:A1} {a0:DrRoom} {r:(Int × Int × Int)} (h:M0 a0 = some r) :
  F0 tab c H (.fn (.func 16) [] []) [(.agg (A3 a0))] [.i r.1,.i r.2.1,.i r.2.2]:= by
 unfold M0 at h
 refine cE rfl rfl<|sg 0 rfl<|A0 (F6 (cs:=A3 a0) rfl rfl rfl) rfl<|qm rfl<|qm rfl<|qm rfl<|es (ra1 rfl)<|B6<|s0<|oB h fun x1 hx1 h=>A0 (D2 rfl) rfl<|A0 (C8 rfl rfl rfl) rfl<|B4 (rs:=[.i x1.1,.i x1.2]) rfl rfl (A2 rfl (A2 rfl (A2 rfl B5))) ((A7i hx1).frz)<|qm rfl<|A0 (A5 rfl rfl) rfl<|A0 (A5 rfl rfl) rfl<|qm rfl<|qm rfl<|es (ra3 rfl rfl rfl)<|s0<|qm rfl<|A0 (J1 rfl rfl) rfl<|es (ra4 rfl rfl rfl rfl)<|wi h rfl (fun hc2 h=>?_) fun hc2 h=>?_
 ·refine s0<|qm rfl<|qm rfl<|qm rfl<|qm rfl<|qm rfl<|es (ra3 rfl rfl rfl)<|C4 ?_
  obtain rfl:=os h
  exact retq trivial (B1 rfl (B1 rfl (B1 rfl B8))) (A7 rfl (A7 rfl (A7 rfl B9))) (A4 A8 (A4 A8 (A4 A8 B2)))
 ·refine C1<|B6<|s0<|oB h fun x3 hx3 h=>A0 (D2 rfl) rfl<|A0 (C8 rfl rfl rfl) rfl<|B4 (rs:=[.i x3.1,.i x3.2]) rfl rfl (A2 rfl (A2 rfl (A2 rfl B5))) ((A7i hx3).frz)<|qm rfl<|A0 (A5 rfl rfl) rfl<|A0 (A5 rfl rfl) rfl<|qm rfl<|qm rfl<|es (ra3 rfl rfl rfl)<|s0<|qm rfl<|A0 (J1 rfl rfl) rfl<|es (ra4 rfl rfl rfl rfl)<|wi h rfl (fun hc4 h=>?_) fun hc4 h=>?_
  ·refine s0<|qm rfl<|qm rfl<|qm rfl<|qm rfl<|qm rfl<|es (ra3 rfl rfl rfl)<|C4 ?_
   obtain rfl:=os h
   exact retq trivial (B1 rfl (B1 rfl (B1 rfl B8))) (A7 rfl (A7 rfl (A7 rfl B9))) (A4 A8 (A4 A8 (A4 A8 B2)))
  ·refine C1<|B6<|s0<|oB h fun x5 hx5 h=>A0 (C2 rfl rfl rfl) rfl<|A0 (D2 rfl) rfl<|A0 (C8 rfl rfl rfl) rfl<|B4 (rs:=[.i x5.1,.i x5.2]) rfl rfl (A2 (C9 rfl) (A2 rfl (A2 rfl (A2 rfl B5)))) ((A8s hx5).frz)<|qm rfl<|A0 (A5 rfl rfl) rfl<|A0 (A5 rfl rfl) rfl<|qm rfl<|qm rfl<|es (ra3 rfl rfl rfl)<|s0<|qm rfl<|A0 (J1 rfl rfl) rfl<|es (ra4 rfl rfl rfl rfl)<|wi h rfl (fun hc6 h=>?_) fun hc6 h=>?_
   ·refine s0<|qm rfl<|qm rfl<|qm rfl<|qm rfl<|qm rfl<|es (ra3 rfl rfl rfl)<|C4 ?_
    obtain rfl:=os h
    exact retq trivial (B1 rfl (B1 rfl (B1 rfl B8))) (A7 rfl (A7 rfl (A7 rfl B9))) (A4 A8 (A4 A8 (A4 A8 B2)))
   ·refine C1<|B6<|s0<|oB h fun x7 hx7 h=>A0 (C2 rfl rfl rfl) rfl<|A0 (D2 rfl) rfl<|A0 (C8 rfl rfl rfl) rfl<|B4 (rs:=[.i x7.1,.i x7.2]) rfl rfl (A2 (C9 rfl) (A2 rfl (A2 rfl (A2 rfl B5)))) ((A8s hx7).frz)<|qm rfl<|A0 (A5 rfl rfl) rfl<|A0 (A5 rfl rfl) rfl<|qm rfl<|qm rfl<|es (ra2 rfl rfl)<|s0<|qm rfl<|A0 (J1 rfl rfl) rfl<|es (ra3 rfl rfl rfl)<|wi h rfl (fun hc8 h=>?_) fun hc8 h=>?_
    ·refine s0<|qm rfl<|qm rfl<|qm rfl<|qm rfl<|qm rfl<|es (ra3 rfl rfl rfl)<|C4 ?_
     obtain rfl:=os h
     exact retq trivial (B1 rfl (B1 rfl (B1 rfl B8))) (A7 rfl (A7 rfl (A7 rfl B9))) (A4 A8 (A4 A8 (A4 A8 B2)))
    ·refine C1<|s0<|qm rfl<|qm rfl<|qm rfl<|es (ra3 rfl rfl rfl)<|C4 ?_
     obtain rfl:=os h
     exact retq trivial (B1 rfl (B1 rfl (B1 rfl B8))) (A7 rfl (A7 rfl (A7 rfl B9))) (A4 A8 (A4 A8 (A4 A8 B2)))
end Ds
end
