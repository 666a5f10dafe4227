/- Texts that the claim stands on, one behind another. -/
import Derived.Test.YtbheamjhjgoccaaDoorA5
import Derived.Test.YtbheamjhjgoccaaDoorChecked
import Derived.KernelRfl
set_option linter.unusedVariables false
set_option linter.unusedSimpArgs false
set_option linter.unnecessarySimpa false
section
set_option maxRecDepth 100000
set_option maxHeartbeats 0
namespace Go.Proofs.YtbheamjhjgoccaaDoor
open Go Am Go.Proofs
theorem m13:D3 Tryd.prog Tryd.f13 Cd.a13 = true:= by kernel_rfl
theorem m17:D3 Tryd.prog Tryd.f17 Cd.a17 = true:= by kernel_rfl
theorem m18:D3 Tryd.prog Tryd.f18 Cd.a18 = true:= by kernel_rfl
theorem m19:D3 Tryd.prog Tryd.f19 Cd.a19 = true:= by kernel_rfl
theorem m21:D3 Tryd.prog Tryd.f21 Cd.a21 = true:= by kernel_rfl
theorem m23:D3 Tryd.prog Tryd.f23 Cd.a23 = true:= by kernel_rfl
theorem m24:D3 Tryd.prog Tryd.f24 Cd.a24 = true:= by kernel_rfl
theorem m26:D3 Tryd.prog Tryd.f26 Cd.a26 = true:= by kernel_rfl
theorem m27:D3 Tryd.prog Tryd.f27 Cd.a27 = true:= by kernel_rfl
theorem m29:D3 Tryd.prog Tryd.f29 Cd.a29 = true:= by kernel_rfl
theorem m31:D3 Tryd.prog Tryd.f31 Cd.a31 = true:= by kernel_rfl
theorem m33:D3 Tryd.prog Tryd.f33 Cd.a33 = true:= by kernel_rfl
theorem m34:D3 Tryd.prog Tryd.f34 Cd.a34 = true:= by kernel_rfl
theorem m36:D3 Tryd.prog Tryd.f36 Cd.a36 = true:= by kernel_rfl
theorem m38:D3 Tryd.prog Tryd.f38 Cd.a38 = true:= by kernel_rfl
theorem m40:D3 Tryd.prog Tryd.f40 Cd.a40 = true:= by kernel_rfl
theorem m41:D3 Tryd.prog Tryd.f41 Cd.a41 = true:= by kernel_rfl
theorem m42:D3 Tryd.prog Tryd.f42 Cd.a42 = true:= by kernel_rfl
theorem m43:D3 Tryd.prog Tryd.f43 Cd.a43 = true:= by kernel_rfl
theorem m48:D3 Tryd.prog Tryd.f48 Cd.a48 = true:= by kernel_rfl
theorem m54:D3 Tryd.prog Tryd.f54 Cd.a54 = true:= by kernel_rfl
theorem m55:D3 Tryd.prog Tryd.f55 Cd.a55 = true:= by kernel_rfl
theorem m59:D3 Tryd.prog Tryd.f59 Cd.a59 = true:= by kernel_rfl
theorem m61:D3 Tryd.prog Tryd.f61 Cd.a61 = true:= by kernel_rfl
theorem m62:D3 Tryd.prog Tryd.f62 Cd.a62 = true:= by kernel_rfl
theorem m63:D3 Tryd.prog Tryd.f63 Cd.a63 = true:= by kernel_rfl
theorem m64:D3 Tryd.prog Tryd.f64 Cd.a64 = true:= by kernel_rfl
theorem m65:D3 Tryd.prog Tryd.f65 Cd.a65 = true:= by kernel_rfl
theorem m66:D3 Tryd.prog Tryd.f66 Cd.a66 = true:= by kernel_rfl
theorem m67:D3 Tryd.prog Tryd.f67 Cd.a67 = true:= by kernel_rfl
theorem m68:D3 Tryd.prog Tryd.f68 Cd.a68 = true:= by kernel_rfl
theorem m69:D3 Tryd.prog Tryd.f69 Cd.a69 = true:= by kernel_rfl
theorem m70:D3 Tryd.prog Tryd.f70 Cd.a70 = true:= by kernel_rfl
theorem m71:D3 Tryd.prog Tryd.f71 Cd.a71 = true:= by kernel_rfl
theorem m72:D3 Tryd.prog Tryd.f72 Cd.a72 = true:= by kernel_rfl
theorem m73:D3 Tryd.prog Tryd.f73 Cd.a73 = true:= by kernel_rfl
theorem m74:D3 Tryd.prog Tryd.f74 Cd.a74 = true:= by kernel_rfl
theorem m75:D3 Tryd.prog Tryd.f75 Cd.a75 = true:= by kernel_rfl
theorem m76:D3 Tryd.prog Tryd.f76 Cd.a76 = true:= by kernel_rfl
theorem m77:D3 Tryd.prog Tryd.f77 Cd.a77 = true:= by kernel_rfl
theorem m78:D3 Tryd.prog Tryd.f78 Cd.a78 = true:= by kernel_rfl
theorem m79:D3 Tryd.prog Tryd.f79 Cd.a79 = true:= by kernel_rfl
theorem m80:D3 Tryd.prog Tryd.f80 Cd.a80 = true:= by kernel_rfl
theorem m81:D3 Tryd.prog Tryd.f81 Cd.a81 = true:= by kernel_rfl
theorem m82:D3 Tryd.prog Tryd.f82 Cd.a82 = true:= by kernel_rfl
theorem m83:D3 Tryd.prog Tryd.f83 Cd.a83 = true:= by kernel_rfl
theorem m86:D3 Tryd.prog Tryd.f86 Cd.a86 = true:= by kernel_rfl
theorem m87:D3 Tryd.prog Tryd.f87 Cd.a87 = true:= by kernel_rfl
theorem m88:D3 Tryd.prog Tryd.f88 Cd.a88 = true:= by kernel_rfl
theorem m89:D3 Tryd.prog Tryd.f89 Cd.a89 = true:= by kernel_rfl
theorem m90:D3 Tryd.prog Tryd.f90 Cd.a90 = true:= by kernel_rfl
theorem m91:D3 Tryd.prog Tryd.f91 Cd.a91 = true:= by kernel_rfl
theorem m93:D3 Tryd.prog Tryd.f93 Cd.a93 = true:= by kernel_rfl
theorem m95:D3 Tryd.prog Tryd.f95 Cd.a95 = true:= by kernel_rfl
theorem m96:D3 Tryd.prog Tryd.f96 Cd.a96 = true:= by kernel_rfl
theorem m97:D3 Tryd.prog Tryd.f97 Cd.a97 = true:= by kernel_rfl
theorem m100:D3 Tryd.prog Tryd.f100 Cd.a100 = true:= by kernel_rfl
theorem m101:D3 Tryd.prog Tryd.f101 Cd.a101 = true:= by kernel_rfl
theorem m102:D3 Tryd.prog Tryd.f102 Cd.a102 = true:= by kernel_rfl
theorem m104:D3 Tryd.prog Tryd.f104 Cd.a104 = true:= by kernel_rfl
theorem m105:D3 Tryd.prog Tryd.f105 Cd.a105 = true:= by kernel_rfl
theorem m106:D3 Tryd.prog Tryd.f106 Cd.a106 = true:= by kernel_rfl
theorem m107:D3 Tryd.prog Tryd.f107 Cd.a107 = true:= by kernel_rfl
theorem m108:D3 Tryd.prog Tryd.f108 Cd.a108 = true:= by kernel_rfl
theorem m109:D3 Tryd.prog Tryd.f109 Cd.a109 = true:= by kernel_rfl
theorem m110:D3 Tryd.prog Tryd.f110 Cd.a110 = true:= by kernel_rfl
theorem m111:D3 Tryd.prog Tryd.f111 Cd.a111 = true:= by kernel_rfl
theorem m112:D3 Tryd.prog Tryd.f112 Cd.a112 = true:= by kernel_rfl
theorem m113:D3 Tryd.prog Tryd.f113 Cd.a113 = true:= by kernel_rfl
theorem m114:D3 Tryd.prog Tryd.f114 Cd.a114 = true:= by kernel_rfl
theorem m115:D3 Tryd.prog Tryd.f115 Cd.a115 = true:= by kernel_rfl
theorem m116:D3 Tryd.prog Tryd.f116 Cd.a116 = true:= by kernel_rfl
theorem m117:D3 Tryd.prog Tryd.f117 Cd.a117 = true:= by kernel_rfl
theorem m118:D3 Tryd.prog Tryd.f118 Cd.a118 = true:= by kernel_rfl
theorem m119:D3 Tryd.prog Tryd.f119 Cd.a119 = true:= by kernel_rfl
theorem m121:D3 Tryd.prog Tryd.f121 Cd.a121 = true:= by kernel_rfl
theorem m122:D3 Tryd.prog Tryd.f122 Cd.a122 = true:= by kernel_rfl
theorem m123:D3 Tryd.prog Tryd.f123 Cd.a123 = true:= by kernel_rfl
theorem m124:D3 Tryd.prog Tryd.f124 Cd.a124 = true:= by kernel_rfl
theorem m125:D3 Tryd.prog Tryd.f125 Cd.a125 = true:= by kernel_rfl
theorem m126:D3 Tryd.prog Tryd.f126 Cd.a126 = true:= by kernel_rfl
theorem m127:D3 Tryd.prog Tryd.f127 Cd.a127 = true:= by kernel_rfl
theorem E17:C3t Tryd.prog Cd.tab:= by
 intro i af h
 unfold Cd.tab at h
 split at h
 ·cases h; exact ⟨Tryd.f13,Tryd.func13,m13⟩
 ·cases h; exact ⟨Tryd.f17,Tryd.func17,m17⟩
 ·cases h; exact ⟨Tryd.f18,Tryd.func18,m18⟩
 ·cases h; exact ⟨Tryd.f19,Tryd.func19,m19⟩
 ·cases h; exact ⟨Tryd.f21,Tryd.func21,m21⟩
 ·cases h; exact ⟨Tryd.f23,Tryd.func23,m23⟩
 ·cases h; exact ⟨Tryd.f24,Tryd.func24,m24⟩
 ·cases h; exact ⟨Tryd.f26,Tryd.func26,m26⟩
 ·cases h; exact ⟨Tryd.f27,Tryd.func27,m27⟩
 ·cases h; exact ⟨Tryd.f29,Tryd.func29,m29⟩
 ·cases h; exact ⟨Tryd.f31,Tryd.func31,m31⟩
 ·cases h; exact ⟨Tryd.f33,Tryd.func33,m33⟩
 ·cases h; exact ⟨Tryd.f34,Tryd.func34,m34⟩
 ·cases h; exact ⟨Tryd.f36,Tryd.func36,m36⟩
 ·cases h; exact ⟨Tryd.f38,Tryd.func38,m38⟩
 ·cases h; exact ⟨Tryd.f40,Tryd.func40,m40⟩
 ·cases h; exact ⟨Tryd.f41,Tryd.func41,m41⟩
 ·cases h; exact ⟨Tryd.f42,Tryd.func42,m42⟩
 ·cases h; exact ⟨Tryd.f43,Tryd.func43,m43⟩
 ·cases h; exact ⟨Tryd.f48,Tryd.func48,m48⟩
 ·cases h; exact ⟨Tryd.f54,Tryd.func54,m54⟩
 ·cases h; exact ⟨Tryd.f55,Tryd.func55,m55⟩
 ·cases h; exact ⟨Tryd.f59,Tryd.func59,m59⟩
 ·cases h; exact ⟨Tryd.f61,Tryd.func61,m61⟩
 ·cases h; exact ⟨Tryd.f62,Tryd.func62,m62⟩
 ·cases h; exact ⟨Tryd.f63,Tryd.func63,m63⟩
 ·cases h; exact ⟨Tryd.f64,Tryd.func64,m64⟩
 ·cases h; exact ⟨Tryd.f65,Tryd.func65,m65⟩
 ·cases h; exact ⟨Tryd.f66,Tryd.func66,m66⟩
 ·cases h; exact ⟨Tryd.f67,Tryd.func67,m67⟩
 ·cases h; exact ⟨Tryd.f68,Tryd.func68,m68⟩
 ·cases h; exact ⟨Tryd.f69,Tryd.func69,m69⟩
 ·cases h; exact ⟨Tryd.f70,Tryd.func70,m70⟩
 ·cases h; exact ⟨Tryd.f71,Tryd.func71,m71⟩
 ·cases h; exact ⟨Tryd.f72,Tryd.func72,m72⟩
 ·cases h; exact ⟨Tryd.f73,Tryd.func73,m73⟩
 ·cases h; exact ⟨Tryd.f74,Tryd.func74,m74⟩
 ·cases h; exact ⟨Tryd.f75,Tryd.func75,m75⟩
 ·cases h; exact ⟨Tryd.f76,Tryd.func76,m76⟩
 ·cases h; exact ⟨Tryd.f77,Tryd.func77,m77⟩
 ·cases h; exact ⟨Tryd.f78,Tryd.func78,m78⟩
 ·cases h; exact ⟨Tryd.f79,Tryd.func79,m79⟩
 ·cases h; exact ⟨Tryd.f80,Tryd.func80,m80⟩
 ·cases h; exact ⟨Tryd.f81,Tryd.func81,m81⟩
 ·cases h; exact ⟨Tryd.f82,Tryd.func82,m82⟩
 ·cases h; exact ⟨Tryd.f83,Tryd.func83,m83⟩
 ·cases h; exact ⟨Tryd.f86,Tryd.func86,m86⟩
 ·cases h; exact ⟨Tryd.f87,Tryd.func87,m87⟩
 ·cases h; exact ⟨Tryd.f88,Tryd.func88,m88⟩
 ·cases h; exact ⟨Tryd.f89,Tryd.func89,m89⟩
 ·cases h; exact ⟨Tryd.f90,Tryd.func90,m90⟩
 ·cases h; exact ⟨Tryd.f91,Tryd.func91,m91⟩
 ·cases h; exact ⟨Tryd.f93,Tryd.func93,m93⟩
 ·cases h; exact ⟨Tryd.f95,Tryd.func95,m95⟩
 ·cases h; exact ⟨Tryd.f96,Tryd.func96,m96⟩
 ·cases h; exact ⟨Tryd.f97,Tryd.func97,m97⟩
 ·cases h; exact ⟨Tryd.f100,Tryd.func100,m100⟩
 ·cases h; exact ⟨Tryd.f101,Tryd.func101,m101⟩
 ·cases h; exact ⟨Tryd.f102,Tryd.func102,m102⟩
 ·cases h; exact ⟨Tryd.f104,Tryd.func104,m104⟩
 ·cases h; exact ⟨Tryd.f105,Tryd.func105,m105⟩
 ·cases h; exact ⟨Tryd.f106,Tryd.func106,m106⟩
 ·cases h; exact ⟨Tryd.f107,Tryd.func107,m107⟩
 ·cases h; exact ⟨Tryd.f108,Tryd.func108,m108⟩
 ·cases h; exact ⟨Tryd.f109,Tryd.func109,m109⟩
 ·cases h; exact ⟨Tryd.f110,Tryd.func110,m110⟩
 ·cases h; exact ⟨Tryd.f111,Tryd.func111,m111⟩
 ·cases h; exact ⟨Tryd.f112,Tryd.func112,m112⟩
 ·cases h; exact ⟨Tryd.f113,Tryd.func113,m113⟩
 ·cases h; exact ⟨Tryd.f114,Tryd.func114,m114⟩
 ·cases h; exact ⟨Tryd.f115,Tryd.func115,m115⟩
 ·cases h; exact ⟨Tryd.f116,Tryd.func116,m116⟩
 ·cases h; exact ⟨Tryd.f117,Tryd.func117,m117⟩
 ·cases h; exact ⟨Tryd.f118,Tryd.func118,m118⟩
 ·cases h; exact ⟨Tryd.f119,Tryd.func119,m119⟩
 ·cases h; exact ⟨Tryd.f121,Tryd.func121,m121⟩
 ·cases h; exact ⟨Tryd.f122,Tryd.func122,m122⟩
 ·cases h; exact ⟨Tryd.f123,Tryd.func123,m123⟩
 ·cases h; exact ⟨Tryd.f124,Tryd.func124,m124⟩
 ·cases h; exact ⟨Tryd.f125,Tryd.func125,m125⟩
 ·cases h; exact ⟨Tryd.f126,Tryd.func126,m126⟩
 ·cases h; exact ⟨Tryd.f127,Tryd.func127,m127⟩
 ·cases h
end Go.Proofs.YtbheamjhjgoccaaDoor
end
section
set_option maxRecDepth 100000
set_option maxHeartbeats 0
namespace Rm
open Go Am Go.Proofs.YtbheamjhjgoccaaDoor.Cd
structure Span where
 mk ::
 (Lo:Int)
 (Hi:Int)
 deriving DecidableEq
def D5 (x:Span):List AV:=[.i x.Lo,.i x.Hi]
structure RoPlace where
 mk ::
 (Name:ByteArray)
 (Dear:Bool)
 (Warms:(List Span))
 (Joists:Int)
 deriving DecidableEq
def B7 (x:RoPlace):List AV:=[.s x.Name,.b x.Dear,(.seq 2 (List.map D5 x.Warms)),.i x.Joists]
structure RoFigure where
 mk ::
 (Name:ByteArray)
 (Class:Int)
 (Weight:Int)
 (Cracks:Int)
 (Slumps:Int)
 (Worth:Int)
 deriving DecidableEq
def A9 (x:RoFigure):List AV:=[.s x.Name,.i x.Class,.i x.Weight,.i x.Cracks,.i x.Slumps,.i x.Worth]
structure RoHouse where
 mk ::
 (Weather:Span)
 (Stoves:Int)
 (Holds:(List Int))
 (Places:(List RoPlace))
 (Figures:(List RoFigure))
 (Bill:(List Int))
 deriving DecidableEq
def A2 (x:RoHouse):List AV:=[.i x.Weather.Lo,.i x.Weather.Hi,.i x.Stoves,(.seq 1 (List.map cI x.Holds)),(.seq 4 (List.map B7 x.Places)),(.seq 6 (List.map A9 x.Figures)),(.seq 1 (List.map cI x.Bill))]
structure room_house where
 mk ::
 (RoHouse:RoHouse)
 deriving DecidableEq
structure RoPlan where
 mk ::
 (Lit:Int)
 (At:(List Int))
 deriving DecidableEq
def B2 (x:RoPlan):List AV:=[.i x.Lit,(.seq 1 (List.map cI x.At))]
structure room_plan where
 mk ::
 (lit_:Int)
 (at_:(Ar5 Int))
 deriving DecidableEq
def A8 (x:room_plan):List AV:=[.i x.lit_,.i x.at_.x0,.i x.at_.x1,.i x.at_.x2,.i x.at_.x3,.i x.at_.x4]
structure law05_Easier where
 mk ::
 (Holds:Int)
 (Bears:Int)
 (Less:Int)
 (Weather:(Ar2 Int))
 (Further:RoFigure)
 deriving DecidableEq
def E8 (x:law05_Easier):List AV:=[(.lit (.int .u8 x.Holds)),(.lit (.int .u8 x.Bears)),(.lit (.int .u8 x.Less)),(.lit (.int .u8 x.Weather.x0)),(.lit (.int .u8 x.Weather.x1)),.s x.Further.Name,.i x.Further.Class,.i x.Further.Weight,.i x.Further.Cracks,.i x.Further.Slumps,.i x.Further.Worth]
def A06 (a0:Int) (a1:Int) (a2:Int):Option Bool :=
 some ((decide (a0 ≥ a1)) && (decide (a0≤a2)))
theorem A44 {c:Sc} {H:A7} {a0:Int} {a1:Int} {a2:Int} {r:Bool} (h:A06 a0 a1 a2 = some r) :
  F1 tab c H (.fn (.func 109) [] []) [.i a0,.i a1,.i a2] [.b r]:= by
 unfold A06 at h
 refine cE rfl rfl<|s0<|qm rfl<|es (ra3 rfl rfl rfl)<|s0<|qm rfl<|qm rfl<|A0 (B2j rfl rfl) rfl<|qm rfl<|gp 4 14 (.b ((decide (a0 ≥ a1)) && (decide (a0≤a2)))) 10 rfl rfl (fun hg1=>?_) (fun hg1=>?_) ?_
 ·exact gT rfl hg1<|qm rfl<|gT rfl hg1<|qm rfl<|gT rfl hg1<|A0 (B2k rfl rfl) rfl<|A0 (D0 rfl hg1 rfl) rfl<|ge 4 (by rw [hg1]; rfl) rfl rfl
 ·exact nT rfl hg1 rfl<|nT rfl hg1 rfl<|nT rfl hg1 rfl<|A0 (D1 rfl hg1 rfl) rfl<|ge 4 (by rw [hg1]; rfl) rfl rfl
 refine qm rfl<|es (ra1 rfl)<|C6 ?_
 obtain rfl:=os h
 exact retq trivial (B1 rfl B9) (A4 rfl B8) (A3 A5 B3)
def A6s (a0:Span) (a1:Int) (a2:Int):Option Int :=
 (A06 a0.Lo a1 a2).bind fun x1 =>
 (if (!x1) = true then
  some true
 else
  (A06 a0.Hi a1 a2).bind fun x3 =>
  some (!x3)).bind fun x4 =>
 if x4 = true then
  some 7
 else
  if (decide (a0.Hi < a0.Lo)) = true then
  some 2
  else
  some 0
theorem B4o {c:Sc} {H:A7} {a0:Span} {a1:Int} {a2:Int} {r:Int} (h:A6s a0 a1 a2 = some r) :
  F1 tab c H (.fn (.func 76) [] []) [(.agg (D5 a0)),.i a1,.i a2] [.i r]:= by
 unfold A6s at h
 refine cE rfl rfl<|sg 0 rfl<|A0 (F3 (cs:=D5 a0) rfl rfl rfl) rfl<|qm rfl<|es (ra3 rfl rfl rfl)<|B6<|s0<|oB h fun x1 hx1 h=>oB h fun x4 hx4 h=>A0 (C4 rfl) rfl<|A0 (C3 rfl rfl rfl) rfl<|qm rfl<|qm rfl<|B4 (rs:=[.b x1]) rfl rfl (A1 rfl (A1 rfl (A1 rfl B5))) ((A44 hx1).frz)<|A0 (N5 rfl) rfl<|qm rfl<|gp 7 20 (.b x4) 13 rfl rfl (fun hg2=>?_) (fun hg2=>?_) ?_
 ·obtain rfl:=os (bt hx4 hg2)
  exact nF rfl hg2 rfl<|nF rfl hg2 rfl<|nF rfl hg2 rfl<|nF rfl hg2 rfl<|I0 (F2 rfl (by rw [hg2]; rfl)) rfl<|nF rfl hg2 rfl<|A0 (D0 rfl hg2 rfl) rfl<|ge 7 rfl rfl rfl
 ·refine oB (bf hx4 hg2) fun x3 hx3 hx4=>?_
  obtain rfl:=os hx4
  exact gF rfl hg2<|A0 (C4 rfl) rfl<|gF rfl hg2<|A0 (C3 rfl rfl rfl) rfl<|gF rfl hg2<|qm rfl<|gF rfl hg2<|qm rfl<|gF rfl hg2<|B4 (rs:=[.b x3]) rfl rfl (A1 rfl (A1 rfl (A1 rfl B5))) ((A44 hx3).frz)<|gF rfl hg2<|A0 (N5 rfl) rfl<|A0 (D1 rfl hg2 rfl) rfl<|ge 7 rfl rfl rfl
 refine es (ra2 rfl rfl)<|wi h rfl (fun hc5 h=>?_) fun hc5 h=>?_
 ·refine s0<|qm rfl<|es (ra1 rfl)<|C6 ?_
  obtain rfl:=os h
  exact retq trivial (B1 rfl B9) (A4 rfl B8) (A3 A5 B3)
 ·refine C1<|B6<|s0<|A0 (C4 rfl) rfl<|A0 (C3 rfl rfl rfl) rfl<|A0 (C4 rfl) rfl<|A0 (C3 rfl rfl rfl) rfl<|A0 (F8 rfl rfl) rfl<|es (ra1 rfl)<|wi h rfl (fun hc6 h=>?_) fun hc6 h=>?_
  ·refine s0<|qm rfl<|es (ra1 rfl)<|C6 ?_
   obtain rfl:=os h
   exact retq trivial (B1 rfl B9) (A4 rfl B8) (A3 A5 B3)
  ·refine C1<|s0<|qm rfl<|es (ra1 rfl)<|C6 ?_
   obtain rfl:=os h
   exact retq trivial (B1 rfl B9) (A4 rfl B8) (A3 A5 B3)
def A3l (a0:(List ByteArray)) (a1:ByteArray) (s1:Int):Option (Int ⊕ (Int ⊕ Unit)) :=
 if (decide (s1 < (List.length a0:Int))) = true then
  (idx a0 s1).bind fun x4 =>
  if (eqS x4 a1) = true then
  some (.inr (.inl s1))
  else
  some (.inl (w64 (s1 + 1)))
 else
  some (.inr (.inr ()))
def A9q (a0:(List ByteArray)) (a1:ByteArray):Option Int :=
 (loop (A3l a0 a1) 0).bind fun (o6:(Int ⊕ Unit)) =>
 match o6 with
 | (.inl vo6_0) =>
  some vo6_0
 | (.inr vo6_1) =>
  some (-1)
theorem C1r {c:Sc} {H:A7} {a0:(List ByteArray)} {a1:ByteArray} {r:Int} (h:A9q a0 a1 = some r) :
  F1 tab c H (.fn (.func 111) [] []) [(.seq 1 (List.map cS a0)),.s a1] [.i r]:= by
 unfold A9q at h
 refine cE rfl rfl<|s0<|qm rfl<|es (ra2 rfl rfl)<|B6<|s0<|qm rfl<|es (ra3 rfl rfl rfl)<|C5<|oB h fun o6 ho6 h=>wl (fun s1=>[(0,(.seq 1 (List.map cS a0))),(1,.s a1),(5,.i s1)]) (fun (q2:Unit) s1=>[]) 0 (fun r e s' H'=>(match r with | (.inl v)=>e = .ret∧RetQ H [.tmp 4] [.i v] e s' H' | (.inr v)=>PX 0 [] (H++[]) e s' H':Prop)) () ho6 rfl rfl (fun _ _=>rfl) (fun _=>rfl) rfl (fun s1=>(bdc G7 (bdc A5 (bdc A5 bdn)))) (fun q2 s1 ys1 hs1=>?_) ?_
 ·unfold A3l at hs1
  refine B6<|s0<|qm rfl<|qm rfl<|A0 (D8 (f:=cS) rfl) rfl<|A0 (F8 rfl rfl) rfl<|es (ra4 rfl rfl rfl rfl)<|wi hs1 rfl (fun hc3 hs1=>?_) fun hc3 hs1=>?_
  ·refine C1<|B6<|C5<|s0<|oB hs1 fun x4 hx4 hs1=>qm rfl<|qm rfl<|A0 (E6 (f:=cS) rfl rfl hx4) rfl<|A0 (E9 rfl rfl) rfl<|qm rfl<|A0 (D4j rfl rfl) rfl<|es (ra4 rfl rfl rfl rfl)<|wi hs1 rfl (fun hc5 hs1=>?_) fun hc5 hs1=>?_
   ·refine s0<|qm rfl<|qm rfl<|es (ra1 rfl)<|C6 ?_
    obtain rfl:=os hs1
    exact lx rfl (And.intro rfl (retq trivial (B1 rfl B9) (A4 rfl B8) (A3 A5 B3))) (Sub.refl _)
   ·refine C1<|r0<|qm rfl<|A0 (E1 rfl rfl) rfl<|qm rfl<|en (ra3 rfl rfl rfl) ?_
    cases hs1
    exact lnT () rfl (su3 rfl rfl rfl)
  ·refine E4 ?_
   obtain rfl:=os hs1
   exact lx rfl px (.nil _)
 ·rcases o6 with vo6_0 | vo6_1
  ·rintro e s' H' - ⟨rfl,hret⟩
   cases h
   exact hret
  ·rintro e s' H' - ⟨rfl,rfl,rfl⟩
   refine s0<|qm rfl<|es (ra1 rfl)<|C6 ?_
   obtain rfl:=os h
   exact retq trivial (B1 rfl B9) (A4 rfl B8) (A3 A5 B3)
def A4r (a0:ByteArray) (s3:Int):Option (Int ⊕ (Bool ⊕ Unit)) :=
 if (decide (s3 < (ByteArray.size a0:Int))) = true then
  (C2r a0 s3).bind fun x6 =>
  (A06 (w64 x6) 97 122).bind fun x7 =>
  (C2r a0 s3).bind fun x8 =>
  (A06 (w64 x8) 48 57).bind fun x9 =>
  (if x9 = true then
  some true
  else
  (C2r a0 s3).bind fun x11 =>
  some (x11 == 46)).bind fun x12 =>
  if ((!x7) && ((s3 == 0) || (!x12))) = true then
  some (.inr (.inl false))
  else
  some (.inl (w64 (s3 + 1)))
 else
  some (.inr (.inr ()))
def A8y (a0:ByteArray):Option Bool :=
 if (((ByteArray.size a0:Int) == 0) || (decide ((ByteArray.size a0:Int) > 16))) = true then
  some false
 else
  (loop (A4r a0) 0).bind fun (o16:(Bool ⊕ Unit)) =>
  match o16 with
  | (.inl vo16_0) =>
  some vo16_0
  | (.inr vo16_1) =>
  some true
theorem C3b {c:Sc} {H:A7} {a0:ByteArray} {r:Bool} (h:A8y a0 = some r) :
  F1 tab c H (.fn (.func 110) [] []) [.s a0] [.b r]:= by
 unfold A8y at h
 refine cE rfl rfl<|s0<|qm rfl<|es (ra1 rfl)<|B6<|s0<|qm rfl<|A0 (C59 rfl) rfl<|A0 (F7 rfl rfl) rfl<|qm rfl<|gp 4 13 (.b (((ByteArray.size a0:Int) == 0) || (decide ((ByteArray.size a0:Int) > 16)))) 9 rfl rfl (fun hg1=>?_) (fun hg1=>?_) ?_
 ·exact nF rfl hg1 rfl<|nF rfl hg1 rfl<|nF rfl hg1 rfl<|A0 (D0 rfl hg1 rfl) rfl<|ge 4 (by rw [hg1]; rfl) rfl rfl
 ·exact gF rfl hg1<|qm rfl<|gF rfl hg1<|A0 (C59 rfl) rfl<|gF rfl hg1<|A0 (A0a rfl rfl) rfl<|A0 (D1 rfl hg1 rfl) rfl<|ge 4 (by rw [hg1]; rfl) rfl rfl
 refine es (ra2 rfl rfl)<|wi h rfl (fun hc2 h=>?_) fun hc2 h=>?_
 ·refine s0<|qm rfl<|es (ra1 rfl)<|C6 ?_
  obtain rfl:=os h
  exact retq trivial (B1 rfl B9) (A4 rfl B8) (A3 A5 B3)
 ·refine C1<|B6<|s0<|qm rfl<|es (ra2 rfl rfl)<|C5<|oB h fun o16 ho16 h=>wl (fun s3=>[(0,.s a0),(3,.i s3)]) (fun (q4:Unit) s3=>[]) 0 (fun r e s' H'=>(match r with | (.inl v)=>e = .ret∧RetQ H [.tmp 2] [.b v] e s' H' | (.inr v)=>PX 0 [] (H++[]) e s' H':Prop)) () ho16 rfl rfl (fun _ _=>rfl) (fun _=>rfl) rfl (fun s3=>(bdc A5 (bdc A5 bdn))) (fun q4 s3 ys3 hs3=>?_) ?_
  ·unfold A4r at hs3
   refine B6<|s0<|qm rfl<|qm rfl<|A0 (C59 rfl) rfl<|A0 (F8 rfl rfl) rfl<|es (ra3 rfl rfl rfl)<|wi hs3 rfl (fun hc5 hs3=>?_) fun hc5 hs3=>?_
   ·refine C1<|B6<|C5<|s0<|oB hs3 fun x6 hx6 hs3=>oB hs3 fun x7 hx7 hs3=>qm rfl<|qm rfl<|A0 (C1i rfl rfl hx6) rfl<|A0 (A25 rfl) rfl<|B4 (rs:=[.b x7]) rfl rfl (A1 rfl (A1 rfl (A1 rfl B5))) ((A44 hx7).frz)<|qm rfl<|es (ra3 rfl rfl rfl)<|s0<|oB hs3 fun x8 hx8 hs3=>oB hs3 fun x9 hx9 hs3=>oB hs3 fun x12 hx12 hs3=>qm rfl<|qm rfl<|A0 (C1i rfl rfl hx8) rfl<|A0 (A25 rfl) rfl<|B4 (rs:=[.b x9]) rfl rfl (A1 rfl (A1 rfl (A1 rfl B5))) ((A44 hx9).frz)<|qm rfl<|gp 5 35 (.b x12) 30 rfl rfl (fun hg10=>?_) (fun hg10=>?_) ?_
    ·obtain rfl:=os (bt hx12 hg10)
     exact nF rfl hg10 rfl<|nF rfl hg10 rfl<|nF rfl hg10 rfl<|nF rfl hg10 rfl<|A0 (D0 rfl hg10 rfl) rfl<|ge 5 rfl rfl rfl
    ·refine oB (bf hx12 hg10) fun x11 hx11 hx12=>?_
     obtain rfl:=os hx12
     exact gF rfl hg10<|qm rfl<|gF rfl hg10<|qm rfl<|gF rfl hg10<|A0 (C1i rfl rfl hx11) rfl<|gF rfl hg10<|A0 (F7 rfl rfl) rfl<|A0 (D1 rfl hg10 rfl) rfl<|ge 5 rfl rfl rfl
    refine qm rfl<|es (ra4 rfl rfl rfl rfl)<|s0<|qm rfl<|A0 (N5 rfl) rfl<|qm rfl<|gp 7 45 (.b ((!x7) && ((s3 == 0) || (!x12)))) 38 rfl rfl (fun hg13=>?_) (fun hg13=>?_) ?_
    ·refine gT rfl hg13<|qm rfl<|gT rfl hg13<|A0 (F7 rfl rfl) rfl<|gT rfl hg13<|qm rfl<|gq 3 44 (.b ((s3 == 0) || (!x12))) 41 rfl rfl (fun hg14=>?_) (fun hg14=>?_) ?_
     ·exact nF rfl hg14 rfl<|nF rfl hg14 rfl<|gT rfl hg13<|A0 (D0 rfl hg14 rfl) rfl<|ge 3 (by rw [hg14]; rfl) rfl rfl
     ·exact gF rfl hg14<|qm rfl<|gF rfl hg14<|A0 (N5 rfl) rfl<|gT rfl hg13<|A0 (D1 rfl hg14 rfl) rfl<|ge 3 (by rw [hg14]; rfl) rfl rfl
     exact A0 (D0 rfl hg13 rfl) rfl<|ge 5 (by rw [hg13]; rfl) rfl rfl
    ·exact nT rfl hg13 rfl<|nT rfl hg13 rfl<|nT rfl hg13 rfl<|nX rfl rfl<|nX rfl rfl<|nT rfl hg13 rfl<|A0 (D1 rfl hg13 rfl) rfl<|ge 7 (by rw [hg13]; rfl) rfl rfl
    refine es (ra3 rfl rfl rfl)<|wi hs3 rfl (fun hc15 hs3=>?_) fun hc15 hs3=>?_
    ·refine s0<|qm rfl<|es (ra1 rfl)<|C6 ?_
     obtain rfl:=os hs3
     exact lx rfl (And.intro rfl (retq trivial (B1 rfl B9) (A4 rfl B8) (A3 A5 B3))) (Sub.refl _)
    ·refine C1<|r0<|qm rfl<|A0 (E1 rfl rfl) rfl<|qm rfl<|en (ra2 rfl rfl) ?_
     cases hs3
     exact lnT () rfl (su2 rfl rfl)
   ·refine E4 ?_
    obtain rfl:=os hs3
    exact lx rfl px (.nil _)
  ·rcases o16 with vo16_0 | vo16_1
   ·rintro e s' H' - ⟨rfl,hret⟩
    cases h
    exact hret
   ·rintro e s' H' - ⟨rfl,rfl,rfl⟩
    refine s0<|qm rfl<|es (ra1 rfl)<|C6 ?_
    obtain rfl:=os h
    exact retq trivial (B1 rfl B9) (A4 rfl B8) (A3 A5 B3)
def A8b (a0:ByteArray) (a1:(List ByteArray)):Option Int :=
 (A8y a0).bind fun x1 =>
 if (!x1) = true then
  some 6
 else
  (A9q a1 a0).bind fun x3 =>
  if (decide (x3 ≥ 0)) = true then
  some 5
  else
  some 0
theorem B6m {c:Sc} {H:A7} {a0:ByteArray} {a1:(List ByteArray)} {r:Int} (h:A8b a0 a1 = some r) :
  F1 tab c H (.fn (.func 78) [] []) [.s a0,(.seq 1 (List.map cS a1))] [.i r]:= by
 unfold A8b at h
 refine cE rfl rfl<|s0<|qm rfl<|es (ra2 rfl rfl)<|B6<|s0<|oB h fun x1 hx1 h=>qm rfl<|B4 (rs:=[.b x1]) rfl rfl (A1 rfl B5) ((C3b hx1).frz)<|A0 (N5 rfl) rfl<|es (ra3 rfl rfl rfl)<|wi h rfl (fun hc2 h=>?_) fun hc2 h=>?_
 ·refine s0<|qm rfl<|es (ra1 rfl)<|C6 ?_
  obtain rfl:=os h
  exact retq trivial (B1 rfl B9) (A4 rfl B8) (A3 A5 B3)
 ·refine C1<|B6<|s0<|oB h fun x3 hx3 h=>qm rfl<|qm rfl<|B4 (rs:=[.i x3]) rfl rfl (A1 rfl (A1 rfl B5)) ((C1r hx3).frz)<|A0 (B2j rfl rfl) rfl<|es (ra1 rfl)<|wi h rfl (fun hc4 h=>?_) fun hc4 h=>?_
  ·refine s0<|qm rfl<|es (ra1 rfl)<|C6 ?_
   obtain rfl:=os h
   exact retq trivial (B1 rfl B9) (A4 rfl B8) (A3 A5 B3)
  ·refine C1<|s0<|qm rfl<|es (ra1 rfl)<|C6 ?_
   obtain rfl:=os h
   exact retq trivial (B1 rfl B9) (A4 rfl B8) (A3 A5 B3)
def H8 (a0:Int) (a1:Int) (a2:Int):Option Bool :=
 some ((decide (a0 ≥ a1)) && (decide (a0≤a2)))
theorem I3 {c:Sc} {H:A7} {a0:Int} {a1:Int} {a2:Int} {r:Bool} (h:H8 a0 a1 a2 = some r) :
  F1 tab c H (.fn (.func 77) [] []) [.i a0,.i a1,.i a2] [.b r]:= by
 unfold H8 at h
 refine cE rfl rfl<|s0<|qm rfl<|es (ra3 rfl rfl rfl)<|s0<|qm rfl<|qm rfl<|A0 (B2j rfl rfl) rfl<|qm rfl<|gp 4 14 (.b ((decide (a0 ≥ a1)) && (decide (a0≤a2)))) 10 rfl rfl (fun hg1=>?_) (fun hg1=>?_) ?_
 ·exact gT rfl hg1<|qm rfl<|gT rfl hg1<|qm rfl<|gT rfl hg1<|A0 (B2k rfl rfl) rfl<|A0 (D0 rfl hg1 rfl) rfl<|ge 4 (by rw [hg1]; rfl) rfl rfl
 ·exact nT rfl hg1 rfl<|nT rfl hg1 rfl<|nT rfl hg1 rfl<|A0 (D1 rfl hg1 rfl) rfl<|ge 4 (by rw [hg1]; rfl) rfl rfl
 refine qm rfl<|es (ra1 rfl)<|C6 ?_
 obtain rfl:=os h
 exact retq trivial (B1 rfl B9) (A4 rfl B8) (A3 A5 B3)
def A6a (a0:RoFigure):Option Int :=
 (H8 a0.Class 0 9).bind fun x1 =>
 (if (!x1) = true then
  some true
 else
  (H8 a0.Weight 1 500).bind fun x3 =>
  some (!x3)).bind fun x4 =>
 (if x4 = true then
  some true
 else
  (H8 a0.Cracks (-100) 100).bind fun x6 =>
  some (!x6)).bind fun x7 =>
 (if x7 = true then
  some true
 else
  (H8 a0.Slumps (-100) 100).bind fun x9 =>
  some (!x9)).bind fun x10 =>
 (if x10 = true then
  some true
 else
  (H8 a0.Worth 0 100).bind fun x12 =>
  some (!x12)).bind fun x13 =>
 if x13 = true then
  some 7
 else
  if (decide (a0.Cracks > a0.Slumps)) = true then
  some 2
  else
  some 0
theorem B9i {c:Sc} {H:A7} {a0:RoFigure} {r:Int} (h:A6a a0 = some r) :
  F1 tab c H (.fn (.func 80) [] []) [(.agg (A9 a0))] [.i r]:= by
 unfold A6a at h
 refine cE rfl rfl<|sg 0 rfl<|A0 (F3 (cs:=A9 a0) rfl rfl rfl) rfl<|qm rfl<|es (ra1 rfl)<|s0<|qm rfl<|es (ra2 rfl rfl)<|B6<|s0<|oB h fun x1 hx1 h=>oB h fun x4 hx4 h=>oB h fun x7 hx7 h=>oB h fun x10 hx10 h=>oB h fun x13 hx13 h=>A0 (C4 rfl) rfl<|A0 (C3 rfl rfl rfl) rfl<|B4 (rs:=[.b x1]) rfl rfl (A1 rfl (A1 rfl (A1 rfl B5))) ((I3 hx1).frz)<|A0 (N5 rfl) rfl<|qm rfl<|gp 5 13 (.b x4) 8 rfl rfl (fun hg2=>?_) (fun hg2=>?_) ?_
 ·obtain rfl:=os (bt hx4 hg2)
  exact nF rfl hg2 rfl<|nF rfl hg2 rfl<|I0 (F2 rfl (by rw [hg2]; rfl)) rfl<|nF rfl hg2 rfl<|A0 (D0 rfl hg2 rfl) rfl<|ge 5 rfl rfl rfl
 ·refine oB (bf hx4 hg2) fun x3 hx3 hx4=>?_
  obtain rfl:=os hx4
  exact gF rfl hg2<|A0 (C4 rfl) rfl<|gF rfl hg2<|A0 (C3 rfl rfl rfl) rfl<|gF rfl hg2<|B4 (rs:=[.b x3]) rfl rfl (A1 rfl (A1 rfl (A1 rfl B5))) ((I3 hx3).frz)<|gF rfl hg2<|A0 (N5 rfl) rfl<|A0 (D1 rfl hg2 rfl) rfl<|ge 5 rfl rfl rfl
 refine qm rfl<|gp 8 22 (.b x7) 14 rfl rfl (fun hg5=>?_) (fun hg5=>?_) ?_
 ·obtain rfl:=os (bt hx7 hg5)
  exact nF rfl hg5 rfl<|nF rfl hg5 rfl<|nF rfl hg5 rfl<|nF rfl hg5 rfl<|nF rfl hg5 rfl<|I0 (F2 rfl (by rw [hg5]; rfl)) rfl<|nF rfl hg5 rfl<|A0 (D0 rfl hg5 rfl) rfl<|ge 8 rfl rfl rfl
 ·refine oB (bf hx7 hg5) fun x6 hx6 hx7=>?_
  obtain rfl:=os hx7
  exact gF rfl hg5<|A0 (C4 rfl) rfl<|gF rfl hg5<|A0 (C3 rfl rfl rfl) rfl<|gF rfl hg5<|qm rfl<|gF rfl hg5<|A0 (F9 (v:=(.i (-100))) rfl rfl rfl) rfl<|gF rfl hg5<|qm rfl<|gF rfl hg5<|B4 (rs:=[.b x6]) rfl rfl (A1 rfl (A1 rfl (A1 rfl B5))) ((I3 hx6).frz)<|gF rfl hg5<|A0 (N5 rfl) rfl<|A0 (D1 rfl hg5 rfl) rfl<|ge 8 rfl rfl rfl
 refine qm rfl<|gp 8 31 (.b x10) 23 rfl rfl (fun hg8=>?_) (fun hg8=>?_) ?_
 ·obtain rfl:=os (bt hx10 hg8)
  exact nF rfl hg8 rfl<|nF rfl hg8 rfl<|nF rfl hg8 rfl<|nF rfl hg8 rfl<|nF rfl hg8 rfl<|I0 (F2 rfl (by rw [hg8]; rfl)) rfl<|nF rfl hg8 rfl<|A0 (D0 rfl hg8 rfl) rfl<|ge 8 rfl rfl rfl
 ·refine oB (bf hx10 hg8) fun x9 hx9 hx10=>?_
  obtain rfl:=os hx10
  exact gF rfl hg8<|A0 (C4 rfl) rfl<|gF rfl hg8<|A0 (C3 rfl rfl rfl) rfl<|gF rfl hg8<|qm rfl<|gF rfl hg8<|A0 (F9 (v:=(.i (-100))) rfl rfl rfl) rfl<|gF rfl hg8<|qm rfl<|gF rfl hg8<|B4 (rs:=[.b x9]) rfl rfl (A1 rfl (A1 rfl (A1 rfl B5))) ((I3 hx9).frz)<|gF rfl hg8<|A0 (N5 rfl) rfl<|A0 (D1 rfl hg8 rfl) rfl<|ge 8 rfl rfl rfl
 refine qm rfl<|gp 5 37 (.b x13) 32 rfl rfl (fun hg11=>?_) (fun hg11=>?_) ?_
 ·obtain rfl:=os (bt hx13 hg11)
  exact nF rfl hg11 rfl<|nF rfl hg11 rfl<|I0 (F2 rfl (by rw [hg11]; rfl)) rfl<|nF rfl hg11 rfl<|A0 (D0 rfl hg11 rfl) rfl<|ge 5 rfl rfl rfl
 ·refine oB (bf hx13 hg11) fun x12 hx12 hx13=>?_
  obtain rfl:=os hx13
  exact gF rfl hg11<|A0 (C4 rfl) rfl<|gF rfl hg11<|A0 (C3 rfl rfl rfl) rfl<|gF rfl hg11<|B4 (rs:=[.b x12]) rfl rfl (A1 rfl (A1 rfl (A1 rfl B5))) ((I3 hx12).frz)<|gF rfl hg11<|A0 (N5 rfl) rfl<|A0 (D1 rfl hg11 rfl) rfl<|ge 5 rfl rfl rfl
 refine es (ra2 rfl rfl)<|wi h rfl (fun hc14 h=>?_) fun hc14 h=>?_
 ·refine s0<|qm rfl<|es (ra1 rfl)<|C6 ?_
  obtain rfl:=os h
  exact retq trivial (B1 rfl B9) (A4 rfl B8) (A3 A5 B3)
 ·refine C1<|B6<|s0<|A0 (C4 rfl) rfl<|A0 (C3 rfl rfl rfl) rfl<|A0 (C4 rfl) rfl<|A0 (C3 rfl rfl rfl) rfl<|A0 (A0a rfl rfl) rfl<|es (ra1 rfl)<|wi h rfl (fun hc15 h=>?_) fun hc15 h=>?_
  ·refine s0<|qm rfl<|es (ra1 rfl)<|C6 ?_
   obtain rfl:=os h
   exact retq trivial (B1 rfl B9) (A4 rfl B8) (A3 A5 B3)
  ·refine C1<|s0<|qm rfl<|es (ra1 rfl)<|C6 ?_
   obtain rfl:=os h
   exact retq trivial (B1 rfl B9) (A4 rfl B8) (A3 A5 B3)
def A1m (a0:Int) (s1:(Int × Int)):Option ((Int × Int) ⊕ Int) :=
 if (decide (s1.2 < a0)) = true then
  some (.inl ((w64 (2 * s1.1)),(w64 (s1.2 + 1))))
 else
  some (.inr s1.1)
def A0g (a0:Int):Option Int :=
 (loop (A1m a0) (1,0)).bind fun (o4:Int) =>
 some o4
theorem A4p {c:Sc} {H:A7} {a0:Int} {r:Int} (h:A0g a0 = some r) :
  F1 tab c H (.fn (.func 101) [] []) [.i a0] [.i r]:= by
 unfold A0g at h
 refine cE rfl rfl<|s0<|qm rfl<|es (ra1 rfl)<|s0<|qm rfl<|es (ra2 rfl rfl)<|B6<|s0<|qm rfl<|es (ra3 rfl rfl rfl)<|C5<|oB h fun o4 ho4 h=>wl (fun s1=>[(0,.i a0),(3,.i s1.1),(4,.i s1.2)]) (fun (q2:Unit) s1=>[]) 0 (fun r e s' H'=>PX 0 [(3,.i r)] (H++[]) e s' H') () ho4 rfl rfl (fun _ _=>rfl) (fun _=>rfl) rfl (fun s1=>(bdc A5 (bdc A5 (bdc A5 bdn)))) (fun q2 s1 ys1 hs1=>?_) ?_
 ·unfold A1m at hs1
  refine B6<|s0<|qm rfl<|qm rfl<|A0 (F8 rfl rfl) rfl<|es (ra4 rfl rfl rfl rfl)<|wi hs1 rfl (fun hc3 hs1=>?_) fun hc3 hs1=>?_
  ·refine C1<|B6<|C5<|r0<|qm rfl<|A0 (C6y rfl rfl) rfl<|qm rfl<|en (ra3 rfl rfl rfl)<|r0<|qm rfl<|A0 (E1 rfl rfl) rfl<|qm rfl<|en (ra3 rfl rfl rfl) ?_
   cases hs1
   exact lnT () rfl (su3 rfl rfl rfl)
  ·refine E4 ?_
   obtain rfl:=os hs1
   exact lx rfl px (su1 rfl)
 ·rintro e s' H' - ⟨rfl,rfl,rfl⟩
  refine s0<|qm rfl<|qm rfl<|es (ra1 rfl)<|C6 ?_
  obtain rfl:=os h
  exact retq trivial (B1 rfl B9) (A4 rfl B8) (A3 A5 B3)
def A3o (a1:RoPlace) (s2:Int):Option (Int ⊕ (Int ⊕ Unit)) :=
 if (decide (s2 < (List.length a1.Warms:Int))) = true then
  (idx a1.Warms s2).bind fun x5 =>
  (A6s x5 0 60).bind fun x6 =>
  if (x6 != 0) = true then
  some (.inr (.inl x6))
  else
  some (.inl (w64 (s2 + 1)))
 else
  some (.inr (.inr ()))
def A7f (a0:RoHouse) (a1:RoPlace):Option Int :=
 if ((List.length a1.Warms:Int) != a0.Stoves) = true then
  some 3
 else
  (loop (A3o a1) 0).bind fun (o8:(Int ⊕ Unit)) =>
  match o8 with
  | (.inl vo8_0) =>
  some vo8_0
  | (.inr vo8_1) =>
  (A0g (List.length a0.Holds:Int)).bind fun x9 =>
  (H8 a1.Joists 0 (w64 (x9 - 1))).bind fun x10 =>
  if (!x10) = true then
   some 4
  else
   some 0
theorem C1w {c:Sc} {H:A7} {a0:RoHouse} {a1:RoPlace} {r:Int} (h:A7f a0 a1 = some r) :
  F1 tab c H (.fn (.func 79) [] []) [(.agg (A2 a0)),(.agg (B7 a1))] [.i r]:= by
 unfold A7f at h
 refine cE rfl rfl<|sg 0 rfl<|A0 (F3 (cs:=A2 a0) rfl rfl rfl) rfl<|A0 (F3 (cs:=B7 a1) rfl rfl rfl) rfl<|qm rfl<|es (ra2 rfl rfl)<|B6<|s0<|A0 (C4 rfl) rfl<|A0 (C3 rfl rfl rfl) rfl<|A0 (D8 (f:=D5) rfl) rfl<|A0 (C4 rfl) rfl<|A0 (C3 rfl rfl rfl) rfl<|A0 (G2 rfl rfl) rfl<|es (ra3 rfl rfl rfl)<|wi h rfl (fun hc1 h=>?_) fun hc1 h=>?_
 ·refine s0<|qm rfl<|es (ra1 rfl)<|C6 ?_
  obtain rfl:=os h
  exact retq trivial (B1 rfl B9) (A4 rfl B8) (A3 A5 B3)
 ·refine C1<|B6<|s0<|qm rfl<|es (ra3 rfl rfl rfl)<|C5<|oB h fun o8 ho8 h=>wl (fun s2=>[(2,(.ptr (H.length + 0) 0)),(3,(.ptr (H.length + 1) 0)),(5,.i s2)]) (fun (q3:Unit) s2=>[(.cells (A2 a0)),(.cells (B7 a1))]) 2 (fun r e s' H'=>(match r with | (.inl v)=>e = .ret∧RetQ H [.tmp 4] [.i v] e s' H' | (.inr v)=>PX 0 [(2,(.ptr (H.length + 0) 0)),(3,(.ptr (H.length + 1) 0))] (H++[(.cells (A2 a0)),(.cells (B7 a1))]) e s' H':Prop)) () ho8 rfl rfl (fun _ _=>rfl) (fun _=>rfl) rfl (fun s2=>(bdc (D4 rfl) (bdc (D4 rfl) (bdc A5 bdn)))) (fun q3 s2 ys2 hs2=>?_) ?_
  ·unfold A3o at hs2
   refine B6<|s0<|qm rfl<|A0 (C4 rfl) rfl<|A0 (C3 rfl rfl rfl) rfl<|A0 (D8 (f:=D5) rfl) rfl<|A0 (F8 rfl rfl) rfl<|es (ra4 rfl rfl rfl rfl)<|wi hs2 rfl (fun hc4 hs2=>?_) fun hc4 hs2=>?_
   ·refine C1<|B6<|C5<|s0<|oB hs2 fun x5 hx5 hs2=>oB hs2 fun x6 hx6 hs2=>A0 (C4 rfl) rfl<|A0 (C3 rfl rfl rfl) rfl<|qm rfl<|A0 (E6 (f:=D5) rfl rfl hx5) rfl<|A0 (O2 rfl rfl) rfl<|B4 (rs:=[.i x6]) rfl rfl (A1 (C8 rfl) (A1 rfl (A1 rfl B5))) ((B4o hx6).frz)<|qm rfl<|es (ra4 rfl rfl rfl rfl)<|s0<|qm rfl<|A0 (G2 rfl rfl) rfl<|es (ra5 rfl rfl rfl rfl rfl)<|wi hs2 rfl (fun hc7 hs2=>?_) fun hc7 hs2=>?_
    ·refine s0<|qm rfl<|qm rfl<|es (ra1 rfl)<|C6 ?_
     obtain rfl:=os hs2
     exact lx rfl (And.intro rfl (retq trivial (B1 rfl B9) (A4 rfl B8) (A3 A5 B3))) (Sub.refl _)
    ·refine C1<|r0<|qm rfl<|A0 (E1 rfl rfl) rfl<|qm rfl<|en (ra3 rfl rfl rfl) ?_
     cases hs2
     exact lnT () rfl (su3 rfl rfl rfl)
   ·refine E4 ?_
    obtain rfl:=os hs2
    exact lx rfl px (su2 rfl rfl)
  ·rcases o8 with vo8_0 | vo8_1
   ·rintro e s' H' - ⟨rfl,hret⟩
    cases h
    exact hret
   ·rintro e s' H' - ⟨rfl,rfl,rfl⟩
    refine B6<|s0<|oB h fun x9 hx9 h=>oB h fun x10 hx10 h=>A0 (C4 rfl) rfl<|A0 (C3 rfl rfl rfl) rfl<|A0 (C4 rfl) rfl<|A0 (C3 rfl rfl rfl) rfl<|A0 (D8 (f:=cI) rfl) rfl<|Y0 (rs:=[.i x9]) rfl rfl (K9 rfl A26) (A1 rfl B5) ((A4p hx9).frz)<|A0 (U8 rfl rfl) rfl<|B4 (rs:=[.b x10]) rfl rfl (A1 rfl (A1 rfl (A1 rfl B5))) ((I3 hx10).frz)<|A0 (N5 rfl) rfl<|es (ra1 rfl)<|wi h rfl (fun hc11 h=>?_) fun hc11 h=>?_
    ·refine s0<|qm rfl<|es (ra1 rfl)<|C6 ?_
     obtain rfl:=os h
     exact retq trivial (B1 rfl B9) (A4 rfl B8) (A3 A5 B3)
    ·refine C1<|s0<|qm rfl<|es (ra1 rfl)<|C6 ?_
     obtain rfl:=os h
     exact retq trivial (B1 rfl B9) (A4 rfl B8) (A3 A5 B3)
def A80 (a0:RoHouse) (s6:Int):Option (Int ⊕ ((Int × Int × Int) ⊕ Unit)) :=
 if (decide (s6 < (List.length a0.Holds:Int))) = true then
  (idx a0.Holds s6).bind fun x9 =>
  (H8 x9 0 2000).bind fun x10 =>
  if (!x10) = true then
  some (.inr (.inl (3,s6,7)))
  else
  some (.inl (w64 (s6 + 1)))
 else
  some (.inr (.inr ()))
def A14 (a0:RoHouse) (s14:(Int × (List ByteArray))):Option ((Int × (List ByteArray)) ⊕ ((Int × Int × Int) ⊕ (List ByteArray))) :=
 if (decide (s14.1 < (List.length a0.Places:Int))) = true then
  (idx a0.Places s14.1).bind fun x17 =>
  (A8b x17.Name s14.2).bind fun x18 =>
  (if (x18 == 0) = true then
   (idx a0.Places s14.1).bind fun x21 =>
   (A7f a0 x21).bind fun x22 =>
   some x22
  else
   some x18).bind fun (p19:Int) =>
  if (p19 != 0) = true then
  some (.inr (.inl (4,s14.1,p19)))
  else
  (idx a0.Places s14.1).bind fun x24 =>
  (app 16 s14.2 [x24.Name]).bind fun x25 =>
  some (.inl ((w64 (s14.1 + 1)),x25))
 else
  some (.inr (.inr s14.2))
def A15 (a0:RoHouse) (s29:(Int × (List ByteArray))):Option ((Int × (List ByteArray)) ⊕ ((Int × Int × Int) ⊕ (List ByteArray))) :=
 if (decide (s29.1 < (List.length a0.Figures:Int))) = true then
  (idx a0.Figures s29.1).bind fun x32 =>
  (A8b x32.Name s29.2).bind fun x33 =>
  (if (x33 == 0) = true then
   (idx a0.Figures s29.1).bind fun x36 =>
   (A6a x36).bind fun x37 =>
   some x37
  else
   some x33).bind fun (p34:Int) =>
  if (p34 != 0) = true then
  some (.inr (.inl (5,s29.1,p34)))
  else
  (idx a0.Figures s29.1).bind fun x39 =>
  (app 16 s29.2 [x39.Name]).bind fun x40 =>
  some (.inl ((w64 (s29.1 + 1)),x40))
 else
  some (.inr (.inr s29.2))
def A81 (a0:RoHouse) (s44:Int):Option (Int ⊕ ((Int × Int × Int) ⊕ Unit)) :=
 if (decide (s44 < (List.length a0.Bill:Int))) = true then
  (idx a0.Bill s44).bind fun x47 =>
  (H8 x47 0 9).bind fun x48 =>
  if (!x48) = true then
  some (.inr (.inl (6,s44,7)))
  else
  some (.inl (w64 (s44 + 1)))
 else
  some (.inr (.inr ()))
def T6 (a0:RoHouse):Option (Int × Int × Int) :=
 (A6s a0.Weather (-100) 100).bind fun x1 =>
 if (x1 != 0) = true then
  some (1,0,x1)
 else
  (H8 a0.Stoves 0 3).bind fun x3 =>
  if (!x3) = true then
  some (2,0,7)
  else
  if (decide ((List.length a0.Holds:Int) > 4)) = true then
   some (3,0,3)
  else
   (loop (A80 a0) 0).bind fun (o12:((Int × Int × Int) ⊕ Unit)) =>
   match o12 with
   | (.inl vo12_0) =>
   some vo12_0
   | (.inr vo12_1) =>
   if (decide ((List.length a0.Places:Int) > 5)) = true then
    some (4,0,3)
   else
    (loop (A14 a0) (0,([]:List ByteArray))).bind fun (o26:((Int × Int × Int) ⊕ (List ByteArray))) =>
    match o26 with
    | (.inl vo26_0) =>
    some vo26_0
    | (.inr vo26_1) =>
    if (decide ((List.length a0.Figures:Int) > 5)) = true then
     some (5,0,3)
    else
     (loop (A15 a0) (0,([]:List ByteArray))).bind fun (o41:((Int × Int × Int) ⊕ (List ByteArray))) =>
     match o41 with
     | (.inl vo41_0) =>
     some vo41_0
     | (.inr vo41_1) =>
     if (decide ((List.length a0.Bill:Int) > 3)) = true then
      some (6,0,3)
     else
      (loop (A81 a0) 0).bind fun (o50:((Int × Int × Int) ⊕ Unit)) =>
      match o50 with
      | (.inl vo50_0) =>
      some vo50_0
      | (.inr vo50_1) =>
      some (0,0,0)
theorem V8 {c:Sc} {H:A7} {a0:RoHouse} {r:(Int × Int × Int)} (h:T6 a0 = some r) :
  F1 tab c H (.fn (.func 18) [] []) [(.agg (A2 a0))] [.i r.1,.i r.2.1,.i r.2.2]:= by
 unfold T6 at h
 refine cE rfl rfl<|sg 0 rfl<|A0 (F3 (cs:=A2 a0) rfl rfl rfl) rfl<|qm rfl<|qm rfl<|qm rfl<|es (ra1 rfl)<|s0<|oB h fun x1 hx1 h=>A0 (C4 rfl) rfl<|A0 (E3 (ds:=D5 a0.Weather) rfl rfl rfl rfl) rfl<|B4 (rs:=[.i x1]) rfl rfl (A1 (C8 rfl) (A1 rfl (A1 rfl B5))) ((B4o hx1).frz)<|qm rfl<|es (ra2 rfl rfl)<|B6<|s0<|qm rfl<|A0 (G2 rfl rfl) rfl<|es (ra3 rfl rfl rfl)<|wi h rfl (fun hc2 h=>?_) fun hc2 h=>?_
 ·refine s0<|qm rfl<|qm rfl<|qm rfl<|qm rfl<|es (ra3 rfl rfl rfl)<|C6 ?_
  obtain rfl:=os h
  exact retq trivial (B1 rfl (B1 rfl (B1 rfl B9))) (A4 rfl (A4 rfl (A4 rfl B8))) (A3 A5 (A3 A5 (A3 A5 B3)))
 ·refine C1<|B6<|s0<|oB h fun x3 hx3 h=>A0 (C4 rfl) rfl<|A0 (C3 rfl rfl rfl) rfl<|B4 (rs:=[.b x3]) rfl rfl (A1 rfl (A1 rfl (A1 rfl B5))) ((I3 hx3).frz)<|A0 (N5 rfl) rfl<|es (ra2 rfl rfl)<|wi h rfl (fun hc4 h=>?_) fun hc4 h=>?_
  ·refine s0<|qm rfl<|qm rfl<|qm rfl<|es (ra3 rfl rfl rfl)<|C6 ?_
   obtain rfl:=os h
   exact retq trivial (B1 rfl (B1 rfl (B1 rfl B9))) (A4 rfl (A4 rfl (A4 rfl B8))) (A3 A5 (A3 A5 (A3 A5 B3)))
  ·refine C1<|B6<|s0<|A0 (C4 rfl) rfl<|A0 (C3 rfl rfl rfl) rfl<|A0 (D8 (f:=cI) rfl) rfl<|A0 (A0a rfl rfl) rfl<|es (ra2 rfl rfl)<|wi h rfl (fun hc5 h=>?_) fun hc5 h=>?_
   ·refine s0<|qm rfl<|qm rfl<|qm rfl<|es (ra3 rfl rfl rfl)<|C6 ?_
    obtain rfl:=os h
    exact retq trivial (B1 rfl (B1 rfl (B1 rfl B9))) (A4 rfl (A4 rfl (A4 rfl B8))) (A3 A5 (A3 A5 (A3 A5 B3)))
   ·refine C1<|B6<|s0<|qm rfl<|es (ra2 rfl rfl)<|C5<|oB h fun o12 ho12 h=>wl (fun s6=>[(1,(.ptr (H.length + 0) 0)),(6,.i s6)]) (fun (q7:Unit) s6=>[(.cells (A2 a0))]) 1 (fun r e s' H'=>(match r with | (.inl v)=>e = .ret∧RetQ H [.tmp 2,.tmp 3,.tmp 4] [.i v.1,.i v.2.1,.i v.2.2] e s' H' | (.inr v)=>PX 0 [(1,(.ptr (H.length + 0) 0))] (H++[(.cells (A2 a0))]) e s' H':Prop)) () ho12 rfl rfl (fun _ _=>rfl) (fun _=>rfl) rfl (fun s6=>(bdc (D4 rfl) (bdc A5 bdn))) (fun q7 s6 ys6 hs6=>?_) ?_
    ·unfold A80 at hs6
     refine B6<|s0<|qm rfl<|A0 (C4 rfl) rfl<|A0 (C3 rfl rfl rfl) rfl<|A0 (D8 (f:=cI) rfl) rfl<|A0 (F8 rfl rfl) rfl<|es (ra3 rfl rfl rfl)<|wi hs6 rfl (fun hc8 hs6=>?_) fun hc8 hs6=>?_
     ·refine C1<|B6<|C5<|s0<|oB hs6 fun x9 hx9 hs6=>oB hs6 fun x10 hx10 hs6=>A0 (C4 rfl) rfl<|A0 (C3 rfl rfl rfl) rfl<|qm rfl<|A0 (E6 (f:=cI) rfl rfl hx9) rfl<|A0 (E9 rfl rfl) rfl<|B4 (rs:=[.b x10]) rfl rfl (A1 rfl (A1 rfl (A1 rfl B5))) ((I3 hx10).frz)<|A0 (N5 rfl) rfl<|es (ra3 rfl rfl rfl)<|wi hs6 rfl (fun hc11 hs6=>?_) fun hc11 hs6=>?_
      ·refine s0<|qm rfl<|qm rfl<|qm rfl<|qm rfl<|es (ra3 rfl rfl rfl)<|C6 ?_
       obtain rfl:=os hs6
       exact lx rfl (And.intro rfl (retq trivial (B1 rfl (B1 rfl (B1 rfl B9))) (A4 rfl (A4 rfl (A4 rfl B8))) (A3 A5 (A3 A5 (A3 A5 B3))))) (Sub.refl _)
      ·refine C1<|r0<|qm rfl<|A0 (E1 rfl rfl) rfl<|qm rfl<|en (ra2 rfl rfl) ?_
       cases hs6
       exact lnT () rfl (su2 rfl rfl)
     ·refine E4 ?_
      obtain rfl:=os hs6
      exact lx rfl px (su1 rfl)
    ·rcases o12 with vo12_0 | vo12_1
     ·rintro e s' H' - ⟨rfl,hret⟩
      cases h
      exact hret
     ·rintro e s' H' - ⟨rfl,rfl,rfl⟩
      refine B6<|s0<|A0 (C4 rfl) rfl<|A0 (C3 rfl rfl rfl) rfl<|A0 (D8 (f:=B7) rfl) rfl<|A0 (A0a rfl rfl) rfl<|es (ra2 rfl rfl)<|wi h rfl (fun hc13 h=>?_) fun hc13 h=>?_
      ·refine s0<|qm rfl<|qm rfl<|qm rfl<|es (ra3 rfl rfl rfl)<|C6 ?_
       obtain rfl:=os h
       exact retq trivial (B1 rfl (B1 rfl (B1 rfl B9))) (A4 rfl (A4 rfl (A4 rfl B8))) (A3 A5 (A3 A5 (A3 A5 B3)))
      ·refine C1<|sg 1 rfl<|A0 B18 rfl<|es (ra2 rfl rfl)<|B6<|s0<|qm rfl<|es (ra3 rfl rfl rfl)<|C5<|oB h fun o26 ho26 h=>wl (fun s14=>[(1,(.ptr (H.length + 0) 0)),(7,(.asl (H.length + 1) (List.length s14.2))),(8,.i s14.1)]) (fun (q15:Bool) s14=>[(.cells (A2 a0)),(.arr 1 q15 (List.map cS s14.2))]) 2 (fun r e s' H'=>(match r with | (.inl v)=>e = .ret∧RetQ H [.tmp 2,.tmp 3,.tmp 4] [.i v.1,.i v.2.1,.i v.2.2] e s' H' | (.inr v)=>e = (.exit 2)∧s' = [(1,(.ptr (H.length + 0) 0))]∧∃ (q0q:Bool),H' = (H++[(.cells (A2 a0)),(.arr 1 q0q (List.map cS v))]):Prop)) false ho26 rfl rfl (fun _ _=>rfl) (fun _=>rfl) rfl (fun s14=>(bdc (D4 rfl) (bdc (A48 rfl) (bdc A5 bdn)))) (fun q15 s14 ys14 hs14=>?_) ?_
       ·unfold A14 at hs14
        refine B6<|s0<|qm rfl<|A0 (C4 rfl) rfl<|A0 (C3 rfl rfl rfl) rfl<|A0 (D8 (f:=B7) rfl) rfl<|A0 (F8 rfl rfl) rfl<|es (ra4 rfl rfl rfl rfl)<|wi hs14 rfl (fun hc16 hs14=>?_) fun hc16 hs14=>?_
        ·refine C1<|B6<|C5<|s0<|oB hs14 fun x17 hx17 hs14=>oB hs14 fun x18 hx18 hs14=>A0 (C4 rfl) rfl<|A0 (C3 rfl rfl rfl) rfl<|qm rfl<|A0 (E6 (f:=B7) rfl rfl hx17) rfl<|A0 (A29 (ds:=(B7 x17)) rfl rfl) rfl<|A0 (E9 rfl rfl) rfl<|qm rfl<|B4 (rs:=[.i x18]) rfl rfl (A1 rfl (A1 (C0p rfl (List.length_map _)) B5)) ((B6m hx18).frz)<|qm rfl<|es (ra4 rfl rfl rfl rfl)<|B6<|s0<|qm rfl<|A0 (F7 rfl rfl) rfl<|es (ra5 rfl rfl rfl rfl rfl)<|oB hs14 fun p19 hp19 hs14=>A1q (Q1:=fun e s' H'=>e = .normal∧s' = [(1,(.ptr (H.length + 0) 0)),(5,.i p19),(7,(.asl (H.length + 1) (List.length s14.2))),(8,.i s14.1)]∧H' = (H++[(.cells (A2 a0)),(.arr 1 true (List.map cS s14.2))])) ?_ ?_
         ·refine wi hp19 rfl (fun hc20 hp19=>?_) fun hc20 hp19=>?_
          ·refine r0<|oB hp19 fun x21 hx21 hp19=>oB hp19 fun x22 hx22 hp19=>A0 (C2 rfl rfl rfl) rfl<|A0 (C4 rfl) rfl<|A0 (C3 rfl rfl rfl) rfl<|qm rfl<|A0 (E6 (f:=B7) rfl rfl hx21) rfl<|A0 (O2 rfl rfl) rfl<|B4 (rs:=[.i x22]) rfl rfl (A1 (C8 rfl) (A1 (C8 rfl) B5)) ((C1w hx22).frz)<|qm rfl<|en (ra4 rfl rfl rfl rfl) ?_
           obtain rfl:=os hp19
           exact me (And.intro rfl (And.intro rfl rfl)) (su4 rfl rfl rfl rfl)
          ·refine C1 ?_
           obtain rfl:=os hp19
           exact me (And.intro rfl (And.intro rfl rfl)) (su4 rfl rfl rfl rfl)
         ·rintro e s' H' ⟨rfl,rfl,rfl⟩
          refine B6<|s0<|qm rfl<|A0 (G2 rfl rfl) rfl<|es (ra5 rfl rfl rfl rfl rfl)<|wi hs14 rfl (fun hc23 hs14=>?_) fun hc23 hs14=>?_
          ·refine s0<|qm rfl<|qm rfl<|qm rfl<|qm rfl<|qm rfl<|es (ra3 rfl rfl rfl)<|C6 ?_
           obtain rfl:=os hs14
           exact lx rfl (And.intro rfl (retq trivial (B1 rfl (B1 rfl (B1 rfl B9))) (A4 rfl (A4 rfl (A4 rfl B8))) (A3 A5 (A3 A5 (A3 A5 B3))))) (Sub.refl _)
          ·refine C1<|r0<|oB hs14 fun x24 hx24 hs14=>oB hs14 fun x25 hx25 hs14=>qm rfl<|A0 (C4 rfl) rfl<|A0 (C3 rfl rfl rfl) rfl<|qm rfl<|A0 (E6 (f:=B7) rfl rfl hx24) rfl<|A0 (A29 (ds:=(B7 x24)) rfl rfl) rfl<|A0 (E9 rfl rfl) rfl<|A0 (J5 (rows:=List.map cS [x24.Name]) rfl rfl (E2 (fun _=>rfl) _)) rfl<|A5a (V6 (f:=cS) rfl rfl rfl rfl R8 (fun _=>rfl) hx25) rfl<|qm rfl<|en (ra3 rfl rfl rfl)<|r0<|qm rfl<|A0 (E1 rfl rfl) rfl<|qm rfl<|en (ra3 rfl rfl rfl) ?_
           cases hs14
           exact lnT true rfl (su3 rfl rfl rfl)
        ·refine E4 ?_
         obtain rfl:=os hs14
         exact lx rfl (And.intro rfl (And.intro rfl ⟨q15,rfl⟩)) (su1 rfl)
       ·rcases o26 with vo26_0 | vo26_1
        ·rintro e s' H' - ⟨rfl,hret⟩
         cases h
         exact hret
        ·rintro e s' H' - ⟨rfl,rfl,q27,rfl⟩
         refine B6<|s0<|A0 (C4 rfl) rfl<|A0 (C3 rfl rfl rfl) rfl<|A0 (D8 (f:=A9) rfl) rfl<|A0 (A0a rfl rfl) rfl<|es (ra2 rfl rfl)<|wi h rfl (fun hc28 h=>?_) fun hc28 h=>?_
         ·refine s0<|qm rfl<|qm rfl<|qm rfl<|es (ra3 rfl rfl rfl)<|C6 ?_
          obtain rfl:=os h
          exact retq trivial (B1 rfl (B1 rfl (B1 rfl B9))) (A4 rfl (A4 rfl (A4 rfl B8))) (A3 A5 (A3 A5 (A3 A5 B3)))
         ·refine C1<|sg 2 rfl<|A0 B18 rfl<|es (ra2 rfl rfl)<|B6<|s0<|qm rfl<|es (ra3 rfl rfl rfl)<|C5<|oB h fun o41 ho41 h=>wl (fun s29=>[(1,(.ptr (H.length + 0) 0)),(7,(.asl (H.length + 2) (List.length s29.2))),(9,.i s29.1)]) (fun (q30:Bool) s29=>[(.cells (A2 a0)),(.arr 1 q27 (List.map cS vo26_1)),(.arr 1 q30 (List.map cS s29.2))]) 3 (fun r e s' H'=>(match r with | (.inl v)=>e = .ret∧RetQ H [.tmp 2,.tmp 3,.tmp 4] [.i v.1,.i v.2.1,.i v.2.2] e s' H' | (.inr v)=>e = (.exit 4)∧s' = [(1,(.ptr (H.length + 0) 0))]∧∃ (q0q:Bool),H' = (H++[(.cells (A2 a0)),(.arr 1 q27 (List.map cS vo26_1)),(.arr 1 q0q (List.map cS v))]):Prop)) false ho41 rfl rfl (fun _ _=>rfl) (fun _=>rfl) rfl (fun s29=>(bdc (D4 rfl) (bdc (A48 rfl) (bdc A5 bdn)))) (fun q30 s29 ys29 hs29=>?_) ?_
          ·unfold A15 at hs29
           refine B6<|s0<|qm rfl<|A0 (C4 rfl) rfl<|A0 (C3 rfl rfl rfl) rfl<|A0 (D8 (f:=A9) rfl) rfl<|A0 (F8 rfl rfl) rfl<|es (ra4 rfl rfl rfl rfl)<|wi hs29 rfl (fun hc31 hs29=>?_) fun hc31 hs29=>?_
           ·refine C1<|B6<|C5<|s0<|oB hs29 fun x32 hx32 hs29=>oB hs29 fun x33 hx33 hs29=>A0 (C4 rfl) rfl<|A0 (C3 rfl rfl rfl) rfl<|qm rfl<|A0 (E6 (f:=A9) rfl rfl hx32) rfl<|A0 (A29 (ds:=(A9 x32)) rfl rfl) rfl<|A0 (E9 rfl rfl) rfl<|qm rfl<|B4 (rs:=[.i x33]) rfl rfl (A1 rfl (A1 (C0p rfl (List.length_map _)) B5)) ((B6m hx33).frz)<|qm rfl<|es (ra4 rfl rfl rfl rfl)<|B6<|s0<|qm rfl<|A0 (F7 rfl rfl) rfl<|es (ra5 rfl rfl rfl rfl rfl)<|oB hs29 fun p34 hp34 hs29=>A1q (Q1:=fun e s' H'=>e = .normal∧s' = [(1,(.ptr (H.length + 0) 0)),(5,.i p34),(7,(.asl (H.length + 2) (List.length s29.2))),(9,.i s29.1)]∧H' = (H++[(.cells (A2 a0)),(.arr 1 q27 (List.map cS vo26_1)),(.arr 1 true (List.map cS s29.2))])) ?_ ?_
            ·refine wi hp34 rfl (fun hc35 hp34=>?_) fun hc35 hp34=>?_
             ·refine r0<|oB hp34 fun x36 hx36 hp34=>oB hp34 fun x37 hx37 hp34=>A0 (C4 rfl) rfl<|A0 (C3 rfl rfl rfl) rfl<|qm rfl<|A0 (E6 (f:=A9) rfl rfl hx36) rfl<|A0 (O2 rfl rfl) rfl<|B4 (rs:=[.i x37]) rfl rfl (A1 (C8 rfl) B5) ((B9i hx37).frz)<|qm rfl<|en (ra4 rfl rfl rfl rfl) ?_
              obtain rfl:=os hp34
              exact me (And.intro rfl (And.intro rfl rfl)) (su4 rfl rfl rfl rfl)
             ·refine C1 ?_
              obtain rfl:=os hp34
              exact me (And.intro rfl (And.intro rfl rfl)) (su4 rfl rfl rfl rfl)
            ·rintro e s' H' ⟨rfl,rfl,rfl⟩
             refine B6<|s0<|qm rfl<|A0 (G2 rfl rfl) rfl<|es (ra5 rfl rfl rfl rfl rfl)<|wi hs29 rfl (fun hc38 hs29=>?_) fun hc38 hs29=>?_
             ·refine s0<|qm rfl<|qm rfl<|qm rfl<|qm rfl<|qm rfl<|es (ra3 rfl rfl rfl)<|C6 ?_
              obtain rfl:=os hs29
              exact lx rfl (And.intro rfl (retq trivial (B1 rfl (B1 rfl (B1 rfl B9))) (A4 rfl (A4 rfl (A4 rfl B8))) (A3 A5 (A3 A5 (A3 A5 B3))))) (Sub.refl _)
             ·refine C1<|r0<|oB hs29 fun x39 hx39 hs29=>oB hs29 fun x40 hx40 hs29=>qm rfl<|A0 (C4 rfl) rfl<|A0 (C3 rfl rfl rfl) rfl<|qm rfl<|A0 (E6 (f:=A9) rfl rfl hx39) rfl<|A0 (A29 (ds:=(A9 x39)) rfl rfl) rfl<|A0 (E9 rfl rfl) rfl<|A0 (J5 (rows:=List.map cS [x39.Name]) rfl rfl (E2 (fun _=>rfl) _)) rfl<|A5a (V6 (f:=cS) rfl rfl rfl rfl R8 (fun _=>rfl) hx40) rfl<|qm rfl<|en (ra3 rfl rfl rfl)<|r0<|qm rfl<|A0 (E1 rfl rfl) rfl<|qm rfl<|en (ra3 rfl rfl rfl) ?_
              cases hs29
              exact lnT true rfl (su3 rfl rfl rfl)
           ·refine E4 ?_
            obtain rfl:=os hs29
            exact lx rfl (And.intro rfl (And.intro rfl ⟨q30,rfl⟩)) (su1 rfl)
          ·rcases o41 with vo41_0 | vo41_1
           ·rintro e s' H' - ⟨rfl,hret⟩
            cases h
            exact hret
           ·rintro e s' H' - ⟨rfl,rfl,q42,rfl⟩
            refine B6<|s0<|A0 (C4 rfl) rfl<|A0 (C3 rfl rfl rfl) rfl<|A0 (D8 (f:=cI) rfl) rfl<|A0 (A0a rfl rfl) rfl<|es (ra2 rfl rfl)<|wi h rfl (fun hc43 h=>?_) fun hc43 h=>?_
            ·refine s0<|qm rfl<|qm rfl<|qm rfl<|es (ra3 rfl rfl rfl)<|C6 ?_
             obtain rfl:=os h
             exact retq trivial (B1 rfl (B1 rfl (B1 rfl B9))) (A4 rfl (A4 rfl (A4 rfl B8))) (A3 A5 (A3 A5 (A3 A5 B3)))
            ·refine C1<|B6<|s0<|qm rfl<|es (ra2 rfl rfl)<|C5<|oB h fun o50 ho50 h=>wl (fun s44=>[(1,(.ptr (H.length + 0) 0)),(10,.i s44)]) (fun (q45:Unit) s44=>[(.cells (A2 a0)),(.arr 1 q27 (List.map cS vo26_1)),(.arr 1 q42 (List.map cS vo41_1))]) 3 (fun r e s' H'=>(match r with | (.inl v)=>e = .ret∧RetQ H [.tmp 2,.tmp 3,.tmp 4] [.i v.1,.i v.2.1,.i v.2.2] e s' H' | (.inr v)=>PX 6 [] (H++[(.cells (A2 a0)),(.arr 1 q27 (List.map cS vo26_1)),(.arr 1 q42 (List.map cS vo41_1))]) e s' H':Prop)) () ho50 rfl rfl (fun _ _=>rfl) (fun _=>rfl) rfl (fun s44=>(bdc (D4 rfl) (bdc A5 bdn))) (fun q45 s44 ys44 hs44=>?_) ?_
             ·unfold A81 at hs44
              refine B6<|s0<|qm rfl<|A0 (C4 rfl) rfl<|A0 (C3 rfl rfl rfl) rfl<|A0 (D8 (f:=cI) rfl) rfl<|A0 (F8 rfl rfl) rfl<|es (ra3 rfl rfl rfl)<|wi hs44 rfl (fun hc46 hs44=>?_) fun hc46 hs44=>?_
              ·refine C1<|B6<|C5<|s0<|oB hs44 fun x47 hx47 hs44=>oB hs44 fun x48 hx48 hs44=>A0 (C4 rfl) rfl<|A0 (C3 rfl rfl rfl) rfl<|qm rfl<|A0 (E6 (f:=cI) rfl rfl hx47) rfl<|A0 (E9 rfl rfl) rfl<|B4 (rs:=[.b x48]) rfl rfl (A1 rfl (A1 rfl (A1 rfl B5))) ((I3 hx48).frz)<|A0 (N5 rfl) rfl<|es (ra3 rfl rfl rfl)<|wi hs44 rfl (fun hc49 hs44=>?_) fun hc49 hs44=>?_
               ·refine s0<|qm rfl<|qm rfl<|qm rfl<|qm rfl<|es (ra3 rfl rfl rfl)<|C6 ?_
                obtain rfl:=os hs44
                exact lx rfl (And.intro rfl (retq trivial (B1 rfl (B1 rfl (B1 rfl B9))) (A4 rfl (A4 rfl (A4 rfl B8))) (A3 A5 (A3 A5 (A3 A5 B3))))) (Sub.refl _)
               ·refine C1<|r0<|qm rfl<|A0 (E1 rfl rfl) rfl<|qm rfl<|en (ra2 rfl rfl) ?_
                cases hs44
                exact lnT () rfl (su2 rfl rfl)
              ·refine E4 ?_
               obtain rfl:=os hs44
               exact lx rfl px (.nil _)
             ·rcases o50 with vo50_0 | vo50_1
              ·rintro e s' H' - ⟨rfl,hret⟩
               cases h
               exact hret
              ·rintro e s' H' - ⟨rfl,rfl,rfl⟩
               refine s0<|qm rfl<|qm rfl<|qm rfl<|es (ra3 rfl rfl rfl)<|C6 ?_
               obtain rfl:=os h
               exact retq trivial (B1 rfl (B1 rfl (B1 rfl B9))) (A4 rfl (A4 rfl (A4 rfl B8))) (A3 A5 (A3 A5 (A3 A5 B3)))
def A4n (a0:ByteArray) (s1:Nat):Option (Nat ⊕ (Bool ⊕ Nat)) :=
 if (decide (s1 < ByteArray.size a0)) = true then
  if ((!((decide (97≤((Utf8.decode a0 s1).1:Int))) && (decide (((Utf8.decode a0 s1).1:Int)≤122)))) && (((s1:Int) == 0) || ((((Utf8.decode a0 s1).1:Int) != 46) && ((decide (((Utf8.decode a0 s1).1:Int) < 48)) || (decide (((Utf8.decode a0 s1).1:Int) > 57)))))) = true then
  some (.inr (.inl false))
  else
  some (.inl (s1 + (Utf8.decode a0 s1).2))
 else
  some (.inr (.inr s1))
def A6p (a0:ByteArray):Option Bool :=
 (loop (A4n a0) (0:Nat)).bind fun (o10:(Bool ⊕ Nat)) =>
 match o10 with
 | (.inl vo10_0) =>
  some vo10_0
 | (.inr vo10_1) =>
  some ((!eqS a0 (ByteArray.mk #[])) && (decide ((ByteArray.size a0:Int)≤16)))
theorem B4n {c:Sc} {H:A7} {a0:ByteArray} {r:Bool} (h:A6p a0 = some r) :
  F1 tab c H (.fn (.func 67) [] []) [.s a0] [.b r]:= by
 unfold A6p at h
 refine cE rfl rfl<|s0<|qm rfl<|es (ra1 rfl)<|B6<|sg 0 rfl<|qm rfl<|A0 (D76 rfl) rfl<|es (ra2 rfl rfl)<|C5<|oB h fun o10 ho10 h=>wl (fun s1=>[(0,.s a0),(7,(.itr (H.length + 0)))]) (fun (q2:Unit) s1=>[.iter a0 s1]) 1 (fun r e s' H'=>(match r with | (.inl v)=>e = .ret∧RetQ H [.tmp 2] [.b v] e s' H' | (.inr v)=>PX 0 [(0,.s a0)] (H++[.iter a0 v]) e s' H':Prop)) () ho10 rfl rfl (fun _ _=>rfl) (fun _=>rfl) rfl (fun s1=>(bdc A5 (bdc (D9a rfl) bdn))) (fun q2 s1 ys1 hs1=>?_) ?_
 ·unfold A4n at hs1
  by_cases hc3:(decide (s1 < ByteArray.size a0)) = true
  ·rw [if_pos hc3] at hs1
   refine s0<|A5a (D74 rfl rfl (of_decide_eq_true hc3)) rfl<|A0 (A6 rfl rfl) rfl<|es (ra4 rfl rfl rfl rfl)<|B6<|H9 rfl rfl<|C1<|C5<|s0<|A0 (A6 rfl rfl) rfl<|A0 (A6 rfl rfl) rfl<|qm rfl<|qm rfl<|es (ra4 rfl rfl rfl rfl)<|s0<|qm rfl<|A0 (B2k rfl rfl) rfl<|qm rfl<|gp 3 17 (.b ((decide (97≤((Utf8.decode a0 s1).1:Int))) && (decide (((Utf8.decode a0 s1).1:Int)≤122)))) 14 rfl rfl (fun hg4=>?_) (fun hg4=>?_) ?_
   ·exact gT rfl hg4<|qm rfl<|gT rfl hg4<|A0 (B2k rfl rfl) rfl<|A0 (D0 rfl hg4 rfl) rfl<|ge 3 (by rw [hg4]; rfl) rfl rfl
   ·exact nT rfl hg4 rfl<|nT rfl hg4 rfl<|A0 (D1 rfl hg4 rfl) rfl<|ge 3 (by rw [hg4]; rfl) rfl rfl
   refine qm rfl<|es (ra5 rfl rfl rfl rfl rfl)<|s0<|qm rfl<|A0 (N5 rfl) rfl<|qm rfl<|gp 15 35 (.b ((!((decide (97≤((Utf8.decode a0 s1).1:Int))) && (decide (((Utf8.decode a0 s1).1:Int)≤122)))) && (((s1:Int) == 0) || ((((Utf8.decode a0 s1).1:Int) != 46) && ((decide (((Utf8.decode a0 s1).1:Int) < 48)) || (decide (((Utf8.decode a0 s1).1:Int) > 57))))))) 20 rfl rfl (fun hg5=>?_) (fun hg5=>?_) ?_
   ·refine gT rfl hg5<|qm rfl<|gT rfl hg5<|A0 (F7 rfl rfl) rfl<|gT rfl hg5<|qm rfl<|gq 11 34 (.b (((s1:Int) == 0) || ((((Utf8.decode a0 s1).1:Int) != 46) && ((decide (((Utf8.decode a0 s1).1:Int) < 48)) || (decide (((Utf8.decode a0 s1).1:Int) > 57)))))) 23 rfl rfl (fun hg6=>?_) (fun hg6=>?_) ?_
    ·exact nF rfl hg6 rfl<|nF rfl hg6 rfl<|nF rfl hg6 rfl<|nX rfl rfl<|nX rfl rfl<|nX rfl rfl<|nX rfl rfl<|nX rfl rfl<|nX rfl rfl<|nF rfl hg6 rfl<|gT rfl hg5<|A0 (D0 rfl hg6 rfl) rfl<|ge 11 (by rw [hg6]; rfl) rfl rfl
    ·refine gF rfl hg6<|qm rfl<|gF rfl hg6<|A0 (G2 rfl rfl) rfl<|gF rfl hg6<|qm rfl<|gq 7 33 (.b ((((Utf8.decode a0 s1).1:Int) != 46) && ((decide (((Utf8.decode a0 s1).1:Int) < 48)) || (decide (((Utf8.decode a0 s1).1:Int) > 57))))) 26 rfl rfl (fun hg7=>?_) (fun hg7=>?_) ?_
     ·refine gT rfl hg7<|qm rfl<|gT rfl hg7<|A0 (F8 rfl rfl) rfl<|gT rfl hg7<|qm rfl<|gq 3 32 (.b ((decide (((Utf8.decode a0 s1).1:Int) < 48)) || (decide (((Utf8.decode a0 s1).1:Int) > 57)))) 29 rfl rfl (fun hg8=>?_) (fun hg8=>?_) ?_
      ·exact nF rfl hg8 rfl<|nF rfl hg8 rfl<|gT rfl hg7<|A0 (D0 rfl hg8 rfl) rfl<|ge 3 (by rw [hg8]; rfl) rfl rfl
      ·exact gF rfl hg8<|qm rfl<|gF rfl hg8<|A0 (A0a rfl rfl) rfl<|gT rfl hg7<|A0 (D1 rfl hg8 rfl) rfl<|ge 3 (by rw [hg8]; rfl) rfl rfl
      exact gF rfl hg6<|A0 (D0 rfl hg7 rfl) rfl<|ge 5 (by rw [hg7]; rfl) rfl rfl
     ·exact nT rfl hg7 rfl<|nT rfl hg7 rfl<|nT rfl hg7 rfl<|nX rfl rfl<|nX rfl rfl<|nT rfl hg7 rfl<|gF rfl hg6<|A0 (D1 rfl hg7 rfl) rfl<|ge 7 (by rw [hg7]; rfl) rfl rfl
     exact gT rfl hg5<|A0 (D1 rfl hg6 rfl) rfl<|ge 5 (by rw [hg6]; rfl) rfl rfl
    exact A0 (D0 rfl hg5 rfl) rfl<|ge 5 (by rw [hg5]; rfl) rfl rfl
   ·exact nT rfl hg5 rfl<|nT rfl hg5 rfl<|nT rfl hg5 rfl<|nX rfl rfl<|nX rfl rfl<|nX rfl rfl<|nX rfl rfl<|nX rfl rfl<|nX rfl rfl<|nX rfl rfl<|nX rfl rfl<|nX rfl rfl<|nX rfl rfl<|nT rfl hg5 rfl<|A0 (D1 rfl hg5 rfl) rfl<|ge 15 (by rw [hg5]; rfl) rfl rfl
   refine es (ra3 rfl rfl rfl)<|wi hs1 rfl (fun hc9 hs1=>?_) fun hc9 hs1=>?_
   ·refine s0<|qm rfl<|es (ra1 rfl)<|C6 ?_
    obtain rfl:=os hs1
    exact lx rfl (And.intro rfl (retq trivial (B1 rfl B9) (A4 rfl B8) (A3 A5 B3))) (Sub.refl _)
   ·refine C1 ?_
    cases hs1
    exact lnT () rfl (su2 rfl rfl)
  ·rw [if_neg hc3] at hs1
   refine s0<|A5a (D73 rfl rfl (fun hn=>hc3 (decide_eq_true hn))) rfl<|A0 (A6 rfl rfl) rfl<|es (ra4 rfl rfl rfl rfl)<|B6<|Q9 rfl rfl<|E4 ?_
   obtain rfl:=os hs1
   exact lx rfl px (su1 rfl)
 ·rcases o10 with vo10_0 | vo10_1
  ·rintro e s' H' - ⟨rfl,hret⟩
   cases h
   exact hret
  ·rintro e s' H' - ⟨rfl,rfl,rfl⟩
   refine s0<|qm rfl<|A0 (E06 rfl rfl) rfl<|qm rfl<|gp 4 42 (.b ((!eqS a0 (ByteArray.mk #[])) && (decide ((ByteArray.size a0:Int)≤16)))) 38 rfl rfl (fun hg11=>?_) (fun hg11=>?_) ?_
   ·exact gT rfl hg11<|qm rfl<|gT rfl hg11<|A0 (C59 rfl) rfl<|gT rfl hg11<|A0 (B2k rfl rfl) rfl<|A0 (D0 rfl hg11 rfl) rfl<|ge 4 (by rw [hg11]; rfl) rfl rfl
   ·exact nT rfl hg11 rfl<|nT rfl hg11 rfl<|nT rfl hg11 rfl<|A0 (D1 rfl hg11 rfl) rfl<|ge 4 (by rw [hg11]; rfl) rfl rfl
   refine qm rfl<|es (ra1 rfl)<|C6 ?_
   obtain rfl:=os h
   exact retq trivial (B1 rfl B9) (A4 rfl B8) (A3 A5 B3)
def A3r (a0:RoPlace) (a1:RoPlace):Option Bool :=
 some (eqS a0.Name a1.Name)
theorem B6n {c:Sc} {H:A7} {a0:RoPlace} {a1:RoPlace} {b1:Nat} (hb1:hcells H b1 = some (B7 a1)) {r:Bool} (h:A3r a0 a1 = some r) :
  F1 tab c H (.fn (.func 69) [] []) [(.agg (B7 a0)),.ptr b1 0] [.b r]:= by
 unfold A3r at h
 refine cE rfl rfl<|sg 0 rfl<|A0 (F3 (cs:=B7 a0) rfl rfl rfl) rfl<|qm rfl<|es (ra2 rfl rfl)<|s0<|A0 (C4 rfl) rfl<|A0 (C3 rfl rfl rfl) rfl<|A0 (C4 rfl) rfl<|A0 (J9 rfl hb1 rfl) rfl<|A0 (D4j rfl rfl) rfl<|qm rfl<|es (ra1 rfl)<|C6 ?_
 obtain rfl:=os h
 exact retq trivial (B1 rfl B9) (A4 rfl B8) (A3 A5 B3)
def A4v (a0:Int) (a1:Int) (a2:Int):Option Bool :=
 some ((decide (a0 < a1)) || (decide (a0 > a2)))
theorem B78 {c:Sc} {H:A7} {a0:Int} {a1:Int} {b1:Nat} (hb1:hcells H b1 = some (cI a1)) {a2:Int} {b2:Nat} (hb2:hcells H b2 = some (cI a2)) {r:Bool} (h:A4v a0 a1 a2 = some r) :
  F1 tab c H (.fn (.func 105) [] []) [.i a0,.ptr b1 0,.ptr b2 0] [.b r]:= by
 unfold A4v at h
 refine cE rfl rfl<|s0<|qm rfl<|es (ra3 rfl rfl rfl)<|s0<|qm rfl<|A0 (J9 rfl hb1 rfl) rfl<|A0 (F8 rfl rfl) rfl<|qm rfl<|gp 4 12 (.b ((decide (a0 < a1)) || (decide (a0 > a2)))) 8 rfl rfl (fun hg1=>?_) (fun hg1=>?_) ?_
 ·exact nF rfl hg1 rfl<|nF rfl hg1 rfl<|nF rfl hg1 rfl<|A0 (D0 rfl hg1 rfl) rfl<|ge 4 (by rw [hg1]; rfl) rfl rfl
 ·exact gF rfl hg1<|qm rfl<|gF rfl hg1<|A0 (J9 rfl hb2 rfl) rfl<|gF rfl hg1<|A0 (A0a rfl rfl) rfl<|A0 (D1 rfl hg1 rfl) rfl<|ge 4 (by rw [hg1]; rfl) rfl rfl
 refine qm rfl<|es (ra1 rfl)<|C6 ?_
 obtain rfl:=os h
 exact retq trivial (B1 rfl B9) (A4 rfl B8) (A3 A5 B3)
def Z1 (a0:(List Int)) (g1:(Int→Option Bool)) (s1:Int):Option (Int ⊕ (Int ⊕ Unit)) :=
 if (decide (s1 < (List.length a0:Int))) = true then
  (idx a0 s1).bind fun x4 =>
  (g1 x4).bind fun x5 =>
  if x5 = true then
  some (.inr (.inl s1))
  else
  some (.inl (w64 (s1 + 1)))
 else
  some (.inr (.inr ()))
def A1p (a0:(List Int)) (g1:(Int→Option Bool)):Option Int :=
 (loop (Z1 a0 g1) 0).bind fun (o7:(Int ⊕ Unit)) =>
 match o7 with
 | (.inl vo7_0) =>
  some vo7_0
 | (.inr vo7_1) =>
  some (-1)
theorem A7z {c:Sc} {H:A7} {a0:(List Int)} {g1:Int→Option Bool} {g1_i:Nat} {g1_f g1_c:List AV} (g1_h:Impl tab H g1_i g1_f g1_c g1 (fun y=>[.i y]) (fun y=>[.b y])) {r:Int} (h:A1p a0 g1 = some r) :
  F1 tab c H (.fn (.func 123) [] []) [(.seq 1 (List.map cI a0)),.fn (.func g1_i) g1_f g1_c] [.i r]:= by
 unfold A1p at h
 refine cE rfl rfl<|s0<|qm rfl<|es (ra2 rfl rfl)<|B6<|s0<|qm rfl<|A0 (D8 (f:=cI) rfl) rfl<|qm rfl<|es (ra4 rfl rfl rfl rfl)<|C5<|oB h fun o7 ho7 h=>wl (fun s1=>[(0,(.seq 1 (List.map cI a0))),(1,(.fn (.func g1_i) g1_f g1_c)),(7,(.i (List.length a0:Int))),(8,.i s1)]) (fun (q2:Unit) s1=>[]) 0 (fun r e s' H'=>(match r with | (.inl v)=>e = .ret∧RetQ H [.tmp 4] [.i v] e s' H' | (.inr v)=>PX 0 [] (H++[]) e s' H':Prop)) () ho7 rfl rfl (fun _ _=>rfl) (fun _=>rfl) rfl (fun s1=>(bdc G7 (bdc (C0b g1_h.1) (bdc A5 (bdc A5 bdn))))) (fun q2 s1 ys1 hs1=>?_) ?_
 ·unfold Z1 at hs1
  refine s0<|A0 (F8 rfl rfl) rfl<|es (ra5 rfl rfl rfl rfl rfl)<|B6<|wi hs1 rfl (fun hc3 hs1=>?_) fun hc3 hs1=>?_
  ·refine C1<|B6<|C5<|s0<|qm rfl<|qm rfl<|es (ra5 rfl rfl rfl rfl rfl)<|s0<|oB hs1 fun x4 hx4 hs1=>oB hs1 fun x5 hx5 hs1=>qm rfl<|qm rfl<|qm rfl<|A0 (E6 (f:=cI) rfl rfl hx4) rfl<|A0 (E9 rfl rfl) rfl<|B4 (rs:=[.b x5]) rfl rfl (A1 rfl B5) (Impl.call g1_h hx5 _)<|es (ra6 rfl rfl rfl rfl rfl rfl)<|wi hs1 rfl (fun hc6 hs1=>?_) fun hc6 hs1=>?_
   ·refine s0<|qm rfl<|qm rfl<|es (ra1 rfl)<|C6 ?_
    obtain rfl:=os hs1
    exact lx rfl (And.intro rfl (retq trivial (B1 rfl B9) (A4 rfl B8) (A3 A5 B3))) (Sub.refl _)
   ·refine C1<|r0<|A0 (E1 rfl rfl) rfl<|qm rfl<|en (ra4 rfl rfl rfl rfl) ?_
    cases hs1
    exact lnT () rfl (su4 rfl rfl rfl rfl)
  ·refine E4 ?_
   obtain rfl:=os hs1
   exact lx rfl px (.nil _)
 ·rcases o7 with vo7_0 | vo7_1
  ·rintro e s' H' - ⟨rfl,hret⟩
   cases h
   exact hret
  ·rintro e s' H' - ⟨rfl,rfl,rfl⟩
   refine s0<|qm rfl<|es (ra1 rfl)<|C6 ?_
   obtain rfl:=os h
   exact retq trivial (B1 rfl B9) (A4 rfl B8) (A3 A5 B3)
def R4 (a0:(List Int)) (g1:(Int→Option Bool)):Option Bool :=
 (A1p a0 g1).bind fun x1 =>
 some (decide (x1 ≥ 0))
theorem A6q {c:Sc} {H:A7} {a0:(List Int)} {g1:Int→Option Bool} {g1_i:Nat} {g1_f g1_c:List AV} (g1_h:Impl tab H g1_i g1_f g1_c g1 (fun y=>[.i y]) (fun y=>[.b y])) {r:Bool} (h:R4 a0 g1 = some r) :
  F1 tab c H (.fn (.func 104) [] []) [(.seq 1 (List.map cI a0)),.fn (.func g1_i) g1_f g1_c] [.b r]:= by
 unfold R4 at h
 refine cE rfl rfl<|s0<|qm rfl<|es (ra2 rfl rfl)<|s0<|oB h fun x1 hx1 h=>qm rfl<|qm rfl<|B4 (rs:=[.i x1]) rfl rfl (A1 rfl (A1 rfl B5)) ((A7z (Impl.app g1_h _) hx1).frz)<|A0 (B2j rfl rfl) rfl<|qm rfl<|es (ra1 rfl)<|C6 ?_
 obtain rfl:=os h
 exact retq trivial (B1 rfl B9) (A4 rfl B8) (A3 A5 B3)
def H7 (a0:Int) (a1:Int) (a2:(List Int)):Option Bool :=
 (R4 a2 (fun (y:Int)=>A4v y a0 a1)).bind fun x1 =>
 some x1
theorem I4 {c:Sc} {H:A7} {a0:Int} {a1:Int} {a2:(List Int)} {r:Bool} (h:H7 a0 a1 a2 = some r) :
  F1 tab c H (.fn (.func 62) [] []) [.i a0,.i a1,(.seq 1 (List.map cI a2))] [.b r]:= by
 unfold H7 at h
 refine cE rfl rfl<|sg 0 rfl<|A0 (F3 (cs:=cI a0) rfl rfl rfl) rfl<|A0 (F3 (cs:=cI a1) rfl rfl rfl) rfl<|qm rfl<|es (ra3 rfl rfl rfl)<|s0<|oB h fun x1 hx1 h=>qm rfl<|A0 (A7n rfl rfl) rfl<|B4 (rs:=[.b x1]) rfl rfl (A1 rfl (A1 rfl B5)) ((A6q (show Impl _ _ 105 [] [(.ptr (H.length + 0) 0),(.ptr (H.length + 1) 0)] (fun (y:Int)=>A4v y a0 a1) (fun (y:Int)=>[.i y]) (fun (y:Bool)=>[.b y]) from ⟨⟨B3,(by rw [List.length_append]; exact (A3 (D4 rfl) (A3 (D4 rfl) B3)))⟩,fun H' hle hag c y r hr=>(A5k (B78 (hag _ _ (D9 rfl)) (hag _ _ (D9 rfl)) hr)).frz⟩) hx1).frz)<|qm rfl<|es (ra1 rfl)<|C6 ?_
 obtain rfl:=os h
 exact retq trivial (B1 rfl B9) (A4 rfl B8) (A3 A5 B3)
def A6w (a0:Span) (a1:Int) (a2:Int):Option Int :=
 (H7 a1 a2 [a0.Lo,a0.Hi]).bind fun x1 =>
 if x1 = true then
  some 7
 else
  if (decide (a0.Lo > a0.Hi)) = true then
  some 2
  else
  some 0
theorem B1p {c:Sc} {H:A7} {a0:Span} {a1:Int} {a2:Int} {r:Int} (h:A6w a0 a1 a2 = some r) :
  F1 tab c H (.fn (.func 61) [] []) [(.agg (D5 a0)),.i a1,.i a2] [.i r]:= by
 unfold A6w at h
 refine cE rfl rfl<|sg 0 rfl<|A0 (F3 (cs:=D5 a0) rfl rfl rfl) rfl<|qm rfl<|es (ra3 rfl rfl rfl)<|B6<|C5<|s0<|oB h fun x1 hx1 h=>qm rfl<|qm rfl<|A0 (C4 rfl) rfl<|A0 (C3 rfl rfl rfl) rfl<|A0 (C4 rfl) rfl<|A0 (C3 rfl rfl rfl) rfl<|A0 (J5 (rows:=List.map cI [a0.Lo,a0.Hi]) rfl rfl (E2 (fun _=>rfl) _)) rfl<|B4 (rs:=[.b x1]) rfl rfl (A1 rfl (A1 rfl (A1 rfl B5))) ((I4 hx1).frz)<|qm rfl<|es (ra2 rfl rfl)<|wi h rfl (fun hc2 h=>?_) fun hc2 h=>?_
 ·refine s0<|qm rfl<|es (ra1 rfl)<|C6 ?_
  obtain rfl:=os h
  exact retq trivial (B1 rfl B9) (A4 rfl B8) (A3 A5 B3)
 ·refine s0<|A0 (C4 rfl) rfl<|A0 (C3 rfl rfl rfl) rfl<|A0 (C4 rfl) rfl<|A0 (C3 rfl rfl rfl) rfl<|A0 (A0a rfl rfl) rfl<|qm rfl<|es (ra1 rfl)<|wi h rfl (fun hc3 h=>?_) fun hc3 h=>?_
  ·refine s0<|qm rfl<|es (ra1 rfl)<|C6 ?_
   obtain rfl:=os h
   exact retq trivial (B1 rfl B9) (A4 rfl B8) (A3 A5 B3)
  ·refine C1<|s0<|qm rfl<|es (ra1 rfl)<|C6 ?_
   obtain rfl:=os h
   exact retq trivial (B1 rfl B9) (A4 rfl B8) (A3 A5 B3)
def W0 (a0:Int) (a1:Span):Option Int :=
 (A6w a1 0 60).bind fun x1 =>
 some x1
theorem B6o {c:Sc} {H:A7} {a0:Int} {a1:Span} {r:Int} (h:W0 a0 a1 = some r) :
  F1 tab c H (.fn (.func 71) [] []) [.i a0,(.agg (D5 a1))] [.i r]:= by
 unfold W0 at h
 refine cE rfl rfl<|sg 0 rfl<|A0 (F3 (cs:=D5 a1) rfl rfl rfl) rfl<|qm rfl<|es (ra1 rfl)<|s0<|oB h fun x1 hx1 h=>A0 (C2 rfl rfl rfl) rfl<|B4 (rs:=[.i x1]) rfl rfl (A1 (C8 rfl) (A1 rfl (A1 rfl B5))) ((B1p hx1).frz)<|qm rfl<|es (ra1 rfl)<|C6 ?_
 obtain rfl:=os h
 exact retq trivial (B1 rfl B9) (A4 rfl B8) (A3 A5 B3)
def A2s (a0:(List Span)) (g2:((Int × Span)→Option Int)) (s2:Int):Option (Int ⊕ ((Int × Int) ⊕ Unit)) :=
 if (decide (s2 < (List.length a0:Int))) = true then
  (idx a0 s2).bind fun x5 =>
  (g2 (s2,x5)).bind fun x6 =>
  if (x6 != 0) = true then
  some (.inr (.inl (s2,x6)))
  else
  some (.inl (w64 (s2 + 1)))
 else
  some (.inr (.inr ()))
def A1w (a0:(List Span)) (a1:Int) (g2:((Int × Span)→Option Int)):Option (Int × Int) :=
 if (decide ((List.length a0:Int) > a1)) = true then
  some (0,3)
 else
  (loop (A2s a0 g2) 0).bind fun (o8:((Int × Int) ⊕ Unit)) =>
  match o8 with
  | (.inl vo8_0) =>
  some vo8_0
  | (.inr vo8_1) =>
  some (0,0)
theorem B1n {c:Sc} {H:A7} {a0:(List Span)} {a1:Int} {g2:(Int × Span)→Option Int} {g2_i:Nat} {g2_f g2_c:List AV} (g2_h:Impl tab H g2_i g2_f g2_c g2 (fun y=>[.i y.1,(.agg (D5 y.2))]) (fun y=>[.i y])) {r:(Int × Int)} (h:A1w a0 a1 g2 = some r) :
  F1 tab c H (.fn (.func 70) [] []) [(.seq 2 (List.map D5 a0)),.i a1,.fn (.func g2_i) g2_f g2_c] [.i r.1,.i r.2]:= by
 unfold A1w at h
 refine cE rfl rfl<|s0<|qm rfl<|qm rfl<|es (ra3 rfl rfl rfl)<|B6<|s0<|qm rfl<|A0 (D8 (f:=D5) rfl) rfl<|qm rfl<|A0 (A0a rfl rfl) rfl<|es (ra3 rfl rfl rfl)<|wi h rfl (fun hc1 h=>?_) fun hc1 h=>?_
 ·refine s0<|qm rfl<|qm rfl<|es (ra2 rfl rfl)<|C6 ?_
  obtain rfl:=os h
  exact retq trivial (B1 rfl (B1 rfl B9)) (A4 rfl (A4 rfl B8)) (A3 A5 (A3 A5 B3))
 ·refine C1<|B6<|s0<|qm rfl<|A0 (D8 (f:=D5) rfl) rfl<|qm rfl<|es (ra4 rfl rfl rfl rfl)<|C5<|oB h fun o8 ho8 h=>wl (fun s2=>[(2,(.fn (.func g2_i) g2_f g2_c)),(15,(.seq 2 (List.map D5 a0))),(16,(.i (List.length a0:Int))),(17,.i s2)]) (fun (q3:Unit) s2=>[]) 0 (fun r e s' H'=>(match r with | (.inl v)=>e = .ret∧RetQ H [.tmp 6,.tmp 7] [.i v.1,.i v.2] e s' H' | (.inr v)=>PX 0 [] (H++[]) e s' H':Prop)) () ho8 rfl rfl (fun _ _=>rfl) (fun _=>rfl) rfl (fun s2=>(bdc (C0b g2_h.1) (bdc G7 (bdc A5 (bdc A5 bdn))))) (fun q3 s2 ys2 hs2=>?_) ?_
  ·unfold A2s at hs2
   refine s0<|A0 (F8 rfl rfl) rfl<|es (ra5 rfl rfl rfl rfl rfl)<|B6<|wi hs2 rfl (fun hc4 hs2=>?_) fun hc4 hs2=>?_
   ·refine C1<|B6<|C5<|sg 0 rfl<|oB hs2 fun x5 hx5 hs2=>qm rfl<|A0 (E6 (f:=D5) rfl rfl hx5) rfl<|A0 (O2 rfl rfl) rfl<|A0 D6 rfl<|qm rfl<|F0 (C7 (ds:=(D5 x5)) rfl rfl rfl rfl (C0 rfl) rfl) rfl<|es (ra6 rfl rfl rfl rfl rfl rfl)<|s0<|oB hs2 fun x6 hx6 hs2=>qm rfl<|qm rfl<|A0 (C2 rfl rfl rfl) rfl<|B4 (rs:=[.i x6]) rfl rfl (A1 rfl (A1 (C8 rfl) B5)) (Impl.call g2_h hx6 _)<|qm rfl<|es (ra6 rfl rfl rfl rfl rfl rfl)<|s0<|qm rfl<|A0 (G2 rfl rfl) rfl<|es (ra7 rfl rfl rfl rfl rfl rfl rfl)<|wi hs2 rfl (fun hc7 hs2=>?_) fun hc7 hs2=>?_
    ·refine s0<|qm rfl<|qm rfl<|qm rfl<|qm rfl<|es (ra2 rfl rfl)<|C6 ?_
     obtain rfl:=os hs2
     exact lx rfl (And.intro rfl (retq trivial (B1 rfl (B1 rfl B9)) (A4 rfl (A4 rfl B8)) (A3 A5 (A3 A5 B3)))) (Sub.refl _)
    ·refine C1<|r0<|A0 (E1 rfl rfl) rfl<|qm rfl<|en (ra4 rfl rfl rfl rfl) ?_
     cases hs2
     exact lnT () rfl (su4 rfl rfl rfl rfl)
   ·refine E4 ?_
    obtain rfl:=os hs2
    exact lx rfl px (.nil _)
  ·rcases o8 with vo8_0 | vo8_1
   ·rintro e s' H' - ⟨rfl,hret⟩
    cases h
    exact hret
   ·rintro e s' H' - ⟨rfl,rfl,rfl⟩
    refine s0<|qm rfl<|qm rfl<|es (ra2 rfl rfl)<|C6 ?_
    obtain rfl:=os h
    exact retq trivial (B1 rfl (B1 rfl B9)) (A4 rfl (A4 rfl B8)) (A3 A5 (A3 A5 B3))
def M5 (a0:(List RoPlace)) (g1:(RoPlace→Option Bool)) (s1:Int):Option (Int ⊕ (Int ⊕ Unit)) :=
 if (decide (s1 < (List.length a0:Int))) = true then
  (idx a0 s1).bind fun x4 =>
  (g1 x4).bind fun x5 =>
  if x5 = true then
  some (.inr (.inl s1))
  else
  some (.inl (w64 (s1 + 1)))
 else
  some (.inr (.inr ()))
def N7 (a0:(List RoPlace)) (g1:(RoPlace→Option Bool)):Option Int :=
 (loop (M5 a0 g1) 0).bind fun (o7:(Int ⊕ Unit)) =>
 match o7 with
 | (.inl vo7_0) =>
  some vo7_0
 | (.inr vo7_1) =>
  some (-1)
theorem A2c {c:Sc} {H:A7} {a0:(List RoPlace)} {g1:RoPlace→Option Bool} {g1_i:Nat} {g1_f g1_c:List AV} (g1_h:Impl tab H g1_i g1_f g1_c g1 (fun y=>[(.agg (B7 y))]) (fun y=>[.b y])) {r:Int} (h:N7 a0 g1 = some r) :
  F1 tab c H (.fn (.func 107) [] []) [(.seq 4 (List.map B7 a0)),.fn (.func g1_i) g1_f g1_c] [.i r]:= by
 unfold N7 at h
 refine cE rfl rfl<|s0<|qm rfl<|es (ra2 rfl rfl)<|B6<|s0<|qm rfl<|A0 (D8 (f:=B7) rfl) rfl<|qm rfl<|es (ra4 rfl rfl rfl rfl)<|C5<|oB h fun o7 ho7 h=>wl (fun s1=>[(0,(.seq 4 (List.map B7 a0))),(1,(.fn (.func g1_i) g1_f g1_c)),(7,(.i (List.length a0:Int))),(8,.i s1)]) (fun (q2:Unit) s1=>[]) 0 (fun r e s' H'=>(match r with | (.inl v)=>e = .ret∧RetQ H [.tmp 4] [.i v] e s' H' | (.inr v)=>PX 0 [] (H++[]) e s' H':Prop)) () ho7 rfl rfl (fun _ _=>rfl) (fun _=>rfl) rfl (fun s1=>(bdc G7 (bdc (C0b g1_h.1) (bdc A5 (bdc A5 bdn))))) (fun q2 s1 ys1 hs1=>?_) ?_
 ·unfold M5 at hs1
  refine s0<|A0 (F8 rfl rfl) rfl<|es (ra5 rfl rfl rfl rfl rfl)<|B6<|wi hs1 rfl (fun hc3 hs1=>?_) fun hc3 hs1=>?_
  ·refine C1<|B6<|C5<|s0<|qm rfl<|qm rfl<|es (ra5 rfl rfl rfl rfl rfl)<|s0<|oB hs1 fun x4 hx4 hs1=>oB hs1 fun x5 hx5 hs1=>qm rfl<|qm rfl<|qm rfl<|A0 (E6 (f:=B7) rfl rfl hx4) rfl<|A0 (O2 rfl rfl) rfl<|B4 (rs:=[.b x5]) rfl rfl (A1 (C8 rfl) B5) (Impl.call g1_h hx5 _)<|es (ra6 rfl rfl rfl rfl rfl rfl)<|wi hs1 rfl (fun hc6 hs1=>?_) fun hc6 hs1=>?_
   ·refine s0<|qm rfl<|qm rfl<|es (ra1 rfl)<|C6 ?_
    obtain rfl:=os hs1
    exact lx rfl (And.intro rfl (retq trivial (B1 rfl B9) (A4 rfl B8) (A3 A5 B3))) (Sub.refl _)
   ·refine C1<|r0<|A0 (E1 rfl rfl) rfl<|qm rfl<|en (ra4 rfl rfl rfl rfl) ?_
    cases hs1
    exact lnT () rfl (su4 rfl rfl rfl rfl)
  ·refine E4 ?_
   obtain rfl:=os hs1
   exact lx rfl px (.nil _)
 ·rcases o7 with vo7_0 | vo7_1
  ·rintro e s' H' - ⟨rfl,hret⟩
   cases h
   exact hret
  ·rintro e s' H' - ⟨rfl,rfl,rfl⟩
   refine s0<|qm rfl<|es (ra1 rfl)<|C6 ?_
   obtain rfl:=os h
   exact retq trivial (B1 rfl B9) (A4 rfl B8) (A3 A5 B3)
def J3 (a0:(List RoPlace)) (g1:(RoPlace→Option Bool)):Option Bool :=
 (N7 a0 g1).bind fun x1 =>
 some (decide (x1 ≥ 0))
theorem A1j {c:Sc} {H:A7} {a0:(List RoPlace)} {g1:RoPlace→Option Bool} {g1_i:Nat} {g1_f g1_c:List AV} (g1_h:Impl tab H g1_i g1_f g1_c g1 (fun y=>[(.agg (B7 y))]) (fun y=>[.b y])) {r:Bool} (h:J3 a0 g1 = some r) :
  F1 tab c H (.fn (.func 68) [] []) [(.seq 4 (List.map B7 a0)),.fn (.func g1_i) g1_f g1_c] [.b r]:= by
 unfold J3 at h
 refine cE rfl rfl<|s0<|qm rfl<|es (ra2 rfl rfl)<|s0<|oB h fun x1 hx1 h=>qm rfl<|qm rfl<|B4 (rs:=[.i x1]) rfl rfl (A1 rfl (A1 rfl B5)) ((A2c (Impl.app g1_h _) hx1).frz)<|A0 (B2j rfl rfl) rfl<|qm rfl<|es (ra1 rfl)<|C6 ?_
 obtain rfl:=os h
 exact retq trivial (B1 rfl B9) (A4 rfl B8) (A3 A5 B3)
def Y8 (a0:Int) (a1:RoPlace) (a2:RoHouse):Option Int :=
 (A6p a1.Name).bind fun x1 =>
 if (!x1) = true then
  some 6
 else
  (slc a2.Places 0 a0).bind fun x3 =>
  (J3 x3 (fun (y:RoPlace)=>A3r y a1)).bind fun x4 =>
  if x4 = true then
  some 5
  else
  if ((List.length a1.Warms:Int) != a2.Stoves) = true then
   some 3
  else
   (A1w a1.Warms a2.Stoves (fun (y:(Int × Span))=>W0 y.1 y.2)).bind fun x7 =>
   if (x7.2 != 0) = true then
   some x7.2
   else
   (B4g .i64 1 (List.length a2.Holds:Int)).bind fun x9 =>
   (H7 0 (w64 (x9 - 1)) [a1.Joists]).bind fun x10 =>
   if x10 = true then
    some 4
   else
    some 0
theorem B9j {c:Sc} {H:A7} {a0:Int} {a1:RoPlace} {a2:RoHouse} {b2:Nat} (hb2:hcells H b2 = some (A2 a2)) {r:Int} (h:Y8 a0 a1 a2 = some r) :
  F1 tab c H (.fn (.func 66) [] []) [.i a0,(.agg (B7 a1)),.ptr b2 0] [.i r]:= by
 unfold Y8 at h
 refine cE rfl rfl<|sg 0 rfl<|A0 (F3 (cs:=B7 a1) rfl rfl rfl) rfl<|qm rfl<|es (ra3 rfl rfl rfl)<|B6<|C5<|s0<|oB h fun x1 hx1 h=>A0 (C4 rfl) rfl<|A0 (C3 rfl rfl rfl) rfl<|B4 (rs:=[.b x1]) rfl rfl (A1 rfl B5) ((B4n hx1).frz)<|A0 (N5 rfl) rfl<|qm rfl<|es (ra4 rfl rfl rfl rfl)<|wi h rfl (fun hc2 h=>?_) fun hc2 h=>?_
 ·refine s0<|qm rfl<|es (ra1 rfl)<|C6 ?_
  obtain rfl:=os h
  exact retq trivial (B1 rfl B9) (A4 rfl B8) (A3 A5 B3)
 ·refine s0<|oB h fun x3 hx3 h=>oB h fun x4 hx4 h=>A0 (C4 rfl) rfl<|A0 (J9 rfl hb2 rfl) rfl<|qm rfl<|A0 (B0p (f:=B7) rfl rfl rfl hx3) rfl<|A0 (A7n rfl rfl) rfl<|B4 (rs:=[.b x4]) rfl rfl (A1 rfl (A1 rfl B5)) ((A1j (show Impl _ _ 69 [] [(.ptr (H.length + 0) 0)] (fun (y:RoPlace)=>A3r y a1) (fun (y:RoPlace)=>[(.agg (B7 y))]) (fun (y:Bool)=>[.b y]) from ⟨⟨B3,(by rw [List.length_append]; exact (A3 (D4 rfl) B3))⟩,fun H' hle hag c y r hr=>(A5k (B6n (hag _ _ (D9 rfl)) hr)).frz⟩) hx4).frz)<|qm rfl<|es (ra3 rfl rfl rfl)<|wi h rfl (fun hc5 h=>?_) fun hc5 h=>?_
  ·refine s0<|qm rfl<|es (ra1 rfl)<|C6 ?_
   obtain rfl:=os h
   exact retq trivial (B1 rfl B9) (A4 rfl B8) (A3 A5 B3)
  ·refine s0<|A0 (C4 rfl) rfl<|A0 (C3 rfl rfl rfl) rfl<|A0 (D8 (f:=D5) rfl) rfl<|A0 (C4 rfl) rfl<|A0 (J9 rfl hb2 rfl) rfl<|A0 (G2 rfl rfl) rfl<|qm rfl<|es (ra3 rfl rfl rfl)<|wi h rfl (fun hc6 h=>?_) fun hc6 h=>?_
   ·refine s0<|qm rfl<|es (ra1 rfl)<|C6 ?_
    obtain rfl:=os h
    exact retq trivial (B1 rfl B9) (A4 rfl B8) (A3 A5 B3)
   ·refine C1<|B6<|s0<|oB h fun x7 hx7 h=>A0 (C4 rfl) rfl<|A0 (C3 rfl rfl rfl) rfl<|A0 (C4 rfl) rfl<|A0 (J9 rfl hb2 rfl) rfl<|B4 (rs:=[.i x7.1,.i x7.2]) rfl rfl (A1 rfl (A1 rfl (A1 rfl B5))) ((B1n (show Impl _ _ 71 [] [] (fun (y:(Int × Span))=>W0 y.1 y.2) (fun (y:(Int × Span))=>[.i y.1,(.agg (D5 y.2))]) (fun (y:Int)=>[.i y]) from ⟨⟨B3,B3⟩,fun H' hle hag c y r hr=>(B6o hr).frz⟩) hx7).frz)<|qm rfl<|A0 (A6 rfl rfl) rfl<|A0 (A6 rfl rfl) rfl<|qm rfl<|qm rfl<|es (ra3 rfl rfl rfl)<|s0<|qm rfl<|A0 (G2 rfl rfl) rfl<|es (ra4 rfl rfl rfl rfl)<|wi h rfl (fun hc8 h=>?_) fun hc8 h=>?_
    ·refine s0<|qm rfl<|qm rfl<|es (ra1 rfl)<|C6 ?_
     obtain rfl:=os h
     exact retq trivial (B1 rfl B9) (A4 rfl B8) (A3 A5 B3)
    ·refine C1<|B6<|s0<|oB h fun x9 hx9 h=>oB h fun x10 hx10 h=>A0 (C4 rfl) rfl<|A0 (J9 rfl hb2 rfl) rfl<|A0 (D8 (f:=cI) rfl) rfl<|A0 (B6k rfl rfl hx9) rfl<|A0 (U8 rfl rfl) rfl<|A0 (C4 rfl) rfl<|A0 (C3 rfl rfl rfl) rfl<|A0 (J5 (rows:=List.map cI [a1.Joists]) rfl rfl (E2 (fun _=>rfl) _)) rfl<|B4 (rs:=[.b x10]) rfl rfl (A1 rfl (A1 rfl (A1 rfl B5))) ((I4 hx10).frz)<|es (ra1 rfl)<|wi h rfl (fun hc11 h=>?_) fun hc11 h=>?_
     ·refine s0<|qm rfl<|es (ra1 rfl)<|C6 ?_
      obtain rfl:=os h
      exact retq trivial (B1 rfl B9) (A4 rfl B8) (A3 A5 B3)
     ·refine C1<|s0<|qm rfl<|es (ra1 rfl)<|C6 ?_
      obtain rfl:=os h
      exact retq trivial (B1 rfl B9) (A4 rfl B8) (A3 A5 B3)
def A3s (a0:RoFigure) (a1:RoFigure):Option Bool :=
 some (eqS a0.Name a1.Name)
theorem B6p {c:Sc} {H:A7} {a0:RoFigure} {a1:RoFigure} {b1:Nat} (hb1:hcells H b1 = some (A9 a1)) {r:Bool} (h:A3s a0 a1 = some r) :
  F1 tab c H (.fn (.func 75) [] []) [(.agg (A9 a0)),.ptr b1 0] [.b r]:= by
 unfold A3s at h
 refine cE rfl rfl<|sg 0 rfl<|A0 (F3 (cs:=A9 a0) rfl rfl rfl) rfl<|qm rfl<|es (ra2 rfl rfl)<|s0<|A0 (C4 rfl) rfl<|A0 (C3 rfl rfl rfl) rfl<|A0 (C4 rfl) rfl<|A0 (J9 rfl hb1 rfl) rfl<|A0 (D4j rfl rfl) rfl<|qm rfl<|es (ra1 rfl)<|C6 ?_
 obtain rfl:=os h
 exact retq trivial (B1 rfl B9) (A4 rfl B8) (A3 A5 B3)
def L9 (a0:(List RoFigure)) (g1:(RoFigure→Option Bool)) (s1:Int):Option (Int ⊕ (Int ⊕ Unit)) :=
 if (decide (s1 < (List.length a0:Int))) = true then
  (idx a0 s1).bind fun x4 =>
  (g1 x4).bind fun x5 =>
  if x5 = true then
  some (.inr (.inl s1))
  else
  some (.inl (w64 (s1 + 1)))
 else
  some (.inr (.inr ()))
def M7 (a0:(List RoFigure)) (g1:(RoFigure→Option Bool)):Option Int :=
 (loop (L9 a0 g1) 0).bind fun (o7:(Int ⊕ Unit)) =>
 match o7 with
 | (.inl vo7_0) =>
  some vo7_0
 | (.inr vo7_1) =>
  some (-1)
theorem A1s {c:Sc} {H:A7} {a0:(List RoFigure)} {g1:RoFigure→Option Bool} {g1_i:Nat} {g1_f g1_c:List AV} (g1_h:Impl tab H g1_i g1_f g1_c g1 (fun y=>[(.agg (A9 y))]) (fun y=>[.b y])) {r:Int} (h:M7 a0 g1 = some r) :
  F1 tab c H (.fn (.func 108) [] []) [(.seq 6 (List.map A9 a0)),.fn (.func g1_i) g1_f g1_c] [.i r]:= by
 unfold M7 at h
 refine cE rfl rfl<|s0<|qm rfl<|es (ra2 rfl rfl)<|B6<|s0<|qm rfl<|A0 (D8 (f:=A9) rfl) rfl<|qm rfl<|es (ra4 rfl rfl rfl rfl)<|C5<|oB h fun o7 ho7 h=>wl (fun s1=>[(0,(.seq 6 (List.map A9 a0))),(1,(.fn (.func g1_i) g1_f g1_c)),(7,(.i (List.length a0:Int))),(8,.i s1)]) (fun (q2:Unit) s1=>[]) 0 (fun r e s' H'=>(match r with | (.inl v)=>e = .ret∧RetQ H [.tmp 4] [.i v] e s' H' | (.inr v)=>PX 0 [] (H++[]) e s' H':Prop)) () ho7 rfl rfl (fun _ _=>rfl) (fun _=>rfl) rfl (fun s1=>(bdc G7 (bdc (C0b g1_h.1) (bdc A5 (bdc A5 bdn))))) (fun q2 s1 ys1 hs1=>?_) ?_
 ·unfold L9 at hs1
  refine s0<|A0 (F8 rfl rfl) rfl<|es (ra5 rfl rfl rfl rfl rfl)<|B6<|wi hs1 rfl (fun hc3 hs1=>?_) fun hc3 hs1=>?_
  ·refine C1<|B6<|C5<|s0<|qm rfl<|qm rfl<|es (ra5 rfl rfl rfl rfl rfl)<|s0<|oB hs1 fun x4 hx4 hs1=>oB hs1 fun x5 hx5 hs1=>qm rfl<|qm rfl<|qm rfl<|A0 (E6 (f:=A9) rfl rfl hx4) rfl<|A0 (O2 rfl rfl) rfl<|B4 (rs:=[.b x5]) rfl rfl (A1 (C8 rfl) B5) (Impl.call g1_h hx5 _)<|es (ra6 rfl rfl rfl rfl rfl rfl)<|wi hs1 rfl (fun hc6 hs1=>?_) fun hc6 hs1=>?_
   ·refine s0<|qm rfl<|qm rfl<|es (ra1 rfl)<|C6 ?_
    obtain rfl:=os hs1
    exact lx rfl (And.intro rfl (retq trivial (B1 rfl B9) (A4 rfl B8) (A3 A5 B3))) (Sub.refl _)
   ·refine C1<|r0<|A0 (E1 rfl rfl) rfl<|qm rfl<|en (ra4 rfl rfl rfl rfl) ?_
    cases hs1
    exact lnT () rfl (su4 rfl rfl rfl rfl)
  ·refine E4 ?_
   obtain rfl:=os hs1
   exact lx rfl px (.nil _)
 ·rcases o7 with vo7_0 | vo7_1
  ·rintro e s' H' - ⟨rfl,hret⟩
   cases h
   exact hret
  ·rintro e s' H' - ⟨rfl,rfl,rfl⟩
   refine s0<|qm rfl<|es (ra1 rfl)<|C6 ?_
   obtain rfl:=os h
   exact retq trivial (B1 rfl B9) (A4 rfl B8) (A3 A5 B3)
def I7 (a0:(List RoFigure)) (g1:(RoFigure→Option Bool)):Option Bool :=
 (M7 a0 g1).bind fun x1 =>
 some (decide (x1 ≥ 0))
theorem A0r {c:Sc} {H:A7} {a0:(List RoFigure)} {g1:RoFigure→Option Bool} {g1_i:Nat} {g1_f g1_c:List AV} (g1_h:Impl tab H g1_i g1_f g1_c g1 (fun y=>[(.agg (A9 y))]) (fun y=>[.b y])) {r:Bool} (h:I7 a0 g1 = some r) :
  F1 tab c H (.fn (.func 74) [] []) [(.seq 6 (List.map A9 a0)),.fn (.func g1_i) g1_f g1_c] [.b r]:= by
 unfold I7 at h
 refine cE rfl rfl<|s0<|qm rfl<|es (ra2 rfl rfl)<|s0<|oB h fun x1 hx1 h=>qm rfl<|qm rfl<|B4 (rs:=[.i x1]) rfl rfl (A1 rfl (A1 rfl B5)) ((A1s (Impl.app g1_h _) hx1).frz)<|A0 (B2j rfl rfl) rfl<|qm rfl<|es (ra1 rfl)<|C6 ?_
 obtain rfl:=os h
 exact retq trivial (B1 rfl B9) (A4 rfl B8) (A3 A5 B3)
def Y9 (a0:Int) (a1:RoFigure) (a2:RoHouse):Option Int :=
 (A6p a1.Name).bind fun x1 =>
 if (!x1) = true then
  some 6
 else
  (slc a2.Figures 0 a0).bind fun x3 =>
  (I7 x3 (fun (y:RoFigure)=>A3s y a1)).bind fun x4 =>
  if x4 = true then
  some 5
  else
  (H7 0 9 [a1.Class]).bind fun x6 =>
  (if x6 = true then
   some true
  else
   (H7 1 500 [a1.Weight]).bind fun x8 =>
   some x8).bind fun x9 =>
  (if x9 = true then
   some true
  else
   (H7 0 100 [a1.Worth]).bind fun x11 =>
   some x11).bind fun x12 =>
  if x12 = true then
   some 7
  else
   (A6w (Span.mk a1.Cracks a1.Slumps) (-100) 100).bind fun x14 =>
   some x14
theorem B9k {c:Sc} {H:A7} {a0:Int} {a1:RoFigure} {a2:RoHouse} {b2:Nat} (hb2:hcells H b2 = some (A2 a2)) {r:Int} (h:Y9 a0 a1 a2 = some r) :
  F1 tab c H (.fn (.func 73) [] []) [.i a0,(.agg (A9 a1)),.ptr b2 0] [.i r]:= by
 unfold Y9 at h
 refine cE rfl rfl<|sg 0 rfl<|A0 (F3 (cs:=A9 a1) rfl rfl rfl) rfl<|qm rfl<|es (ra3 rfl rfl rfl)<|B6<|C5<|s0<|oB h fun x1 hx1 h=>A0 (C4 rfl) rfl<|A0 (C3 rfl rfl rfl) rfl<|B4 (rs:=[.b x1]) rfl rfl (A1 rfl B5) ((B4n hx1).frz)<|A0 (N5 rfl) rfl<|qm rfl<|es (ra4 rfl rfl rfl rfl)<|wi h rfl (fun hc2 h=>?_) fun hc2 h=>?_
 ·refine s0<|qm rfl<|es (ra1 rfl)<|C6 ?_
  obtain rfl:=os h
  exact retq trivial (B1 rfl B9) (A4 rfl B8) (A3 A5 B3)
 ·refine s0<|oB h fun x3 hx3 h=>oB h fun x4 hx4 h=>A0 (C4 rfl) rfl<|A0 (J9 rfl hb2 rfl) rfl<|qm rfl<|A0 (B0p (f:=A9) rfl rfl rfl hx3) rfl<|A0 (A7n rfl rfl) rfl<|B4 (rs:=[.b x4]) rfl rfl (A1 rfl (A1 rfl B5)) ((A0r (show Impl _ _ 75 [] [(.ptr (H.length + 0) 0)] (fun (y:RoFigure)=>A3s y a1) (fun (y:RoFigure)=>[(.agg (A9 y))]) (fun (y:Bool)=>[.b y]) from ⟨⟨B3,(by rw [List.length_append]; exact (A3 (D4 rfl) B3))⟩,fun H' hle hag c y r hr=>(A5k (B6p (hag _ _ (D9 rfl)) hr)).frz⟩) hx4).frz)<|qm rfl<|es (ra2 rfl rfl)<|wi h rfl (fun hc5 h=>?_) fun hc5 h=>?_
  ·refine s0<|qm rfl<|es (ra1 rfl)<|C6 ?_
   obtain rfl:=os h
   exact retq trivial (B1 rfl B9) (A4 rfl B8) (A3 A5 B3)
  ·refine s0<|oB h fun x6 hx6 h=>oB h fun x9 hx9 h=>oB h fun x12 hx12 h=>A0 (C4 rfl) rfl<|A0 (C3 rfl rfl rfl) rfl<|A0 (J5 (rows:=List.map cI [a1.Class]) rfl rfl (E2 (fun _=>rfl) _)) rfl<|B4 (rs:=[.b x6]) rfl rfl (A1 rfl (A1 rfl (A1 rfl B5))) ((I4 hx6).frz)<|qm rfl<|gp 5 28 (.b x9) 23 rfl rfl (fun hg7=>?_) (fun hg7=>?_) ?_
   ·obtain rfl:=os (bt hx9 hg7)
    exact nF rfl hg7 rfl<|nF rfl hg7 rfl<|nF rfl hg7 rfl<|I0 (F2 rfl (by rw [hg7]; rfl)) rfl<|A0 (D0 rfl hg7 rfl) rfl<|ge 5 rfl rfl rfl
   ·refine oB (bf hx9 hg7) fun x8 hx8 hx9=>?_
    obtain rfl:=os hx9
    exact gF rfl hg7<|A0 (C4 rfl) rfl<|gF rfl hg7<|A0 (C3 rfl rfl rfl) rfl<|gF rfl hg7<|A0 (J5 (rows:=List.map cI [a1.Weight]) rfl rfl (E2 (fun _=>rfl) _)) rfl<|gF rfl hg7<|B4 (rs:=[.b x8]) rfl rfl (A1 rfl (A1 rfl (A1 rfl B5))) ((I4 hx8).frz)<|A0 (D1 rfl hg7 rfl) rfl<|ge 5 rfl rfl rfl
   refine qm rfl<|gp 5 34 (.b x12) 29 rfl rfl (fun hg10=>?_) (fun hg10=>?_) ?_
   ·obtain rfl:=os (bt hx12 hg10)
    exact nF rfl hg10 rfl<|nF rfl hg10 rfl<|nF rfl hg10 rfl<|I0 (F2 rfl (by rw [hg10]; rfl)) rfl<|A0 (D0 rfl hg10 rfl) rfl<|ge 5 rfl rfl rfl
   ·refine oB (bf hx12 hg10) fun x11 hx11 hx12=>?_
    obtain rfl:=os hx12
    exact gF rfl hg10<|A0 (C4 rfl) rfl<|gF rfl hg10<|A0 (C3 rfl rfl rfl) rfl<|gF rfl hg10<|A0 (J5 (rows:=List.map cI [a1.Worth]) rfl rfl (E2 (fun _=>rfl) _)) rfl<|gF rfl hg10<|B4 (rs:=[.b x11]) rfl rfl (A1 rfl (A1 rfl (A1 rfl B5))) ((I4 hx11).frz)<|A0 (D1 rfl hg10 rfl) rfl<|ge 5 rfl rfl rfl
   refine qm rfl<|es (ra2 rfl rfl)<|wi h rfl (fun hc13 h=>?_) fun hc13 h=>?_
   ·refine s0<|qm rfl<|es (ra1 rfl)<|C6 ?_
    obtain rfl:=os h
    exact retq trivial (B1 rfl B9) (A4 rfl B8) (A3 A5 B3)
   ·refine C1<|s0<|oB h fun x14 hx14 h=>A0 (C4 rfl) rfl<|A0 (C3 rfl rfl rfl) rfl<|A0 (C4 rfl) rfl<|A0 (C3 rfl rfl rfl) rfl<|A0 (G6 (cs:=D5 (Span.mk a1.Cracks a1.Slumps)) rfl rfl) rfl<|B4 (rs:=[.i x14]) rfl rfl (A1 (C8 rfl) (A1 rfl (A1 rfl B5))) ((B1p hx14).frz)<|qm rfl<|es (ra1 rfl)<|C6 ?_
    obtain rfl:=os h
    exact retq trivial (B1 rfl B9) (A4 rfl B8) (A3 A5 B3)
def A0i (a0:(List RoFigure)) (g2:((Int × RoFigure)→Option Int)) (s2:Int):Option (Int ⊕ ((Int × Int) ⊕ Unit)) :=
 if (decide (s2 < (List.length a0:Int))) = true then
  (idx a0 s2).bind fun x5 =>
  (g2 (s2,x5)).bind fun x6 =>
  if (x6 != 0) = true then
  some (.inr (.inl (s2,x6)))
  else
  some (.inl (w64 (s2 + 1)))
 else
  some (.inr (.inr ()))
def X1 (a0:(List RoFigure)) (a1:Int) (g2:((Int × RoFigure)→Option Int)):Option (Int × Int) :=
 if (decide ((List.length a0:Int) > a1)) = true then
  some (0,3)
 else
  (loop (A0i a0 g2) 0).bind fun (o8:((Int × Int) ⊕ Unit)) =>
  match o8 with
  | (.inl vo8_0) =>
  some vo8_0
  | (.inr vo8_1) =>
  some (0,0)
theorem A8w {c:Sc} {H:A7} {a0:(List RoFigure)} {a1:Int} {g2:(Int × RoFigure)→Option Int} {g2_i:Nat} {g2_f g2_c:List AV} (g2_h:Impl tab H g2_i g2_f g2_c g2 (fun y=>[.i y.1,(.agg (A9 y.2))]) (fun y=>[.i y])) {r:(Int × Int)} (h:X1 a0 a1 g2 = some r) :
  F1 tab c H (.fn (.func 72) [] []) [(.seq 6 (List.map A9 a0)),.i a1,.fn (.func g2_i) g2_f g2_c] [.i r.1,.i r.2]:= by
 unfold X1 at h
 refine cE rfl rfl<|s0<|qm rfl<|qm rfl<|es (ra3 rfl rfl rfl)<|B6<|s0<|qm rfl<|A0 (D8 (f:=A9) rfl) rfl<|qm rfl<|A0 (A0a rfl rfl) rfl<|es (ra3 rfl rfl rfl)<|wi h rfl (fun hc1 h=>?_) fun hc1 h=>?_
 ·refine s0<|qm rfl<|qm rfl<|es (ra2 rfl rfl)<|C6 ?_
  obtain rfl:=os h
  exact retq trivial (B1 rfl (B1 rfl B9)) (A4 rfl (A4 rfl B8)) (A3 A5 (A3 A5 B3))
 ·refine C1<|B6<|s0<|qm rfl<|A0 (D8 (f:=A9) rfl) rfl<|qm rfl<|es (ra4 rfl rfl rfl rfl)<|C5<|oB h fun o8 ho8 h=>wl (fun s2=>[(2,(.fn (.func g2_i) g2_f g2_c)),(15,(.seq 6 (List.map A9 a0))),(16,(.i (List.length a0:Int))),(17,.i s2)]) (fun (q3:Unit) s2=>[]) 0 (fun r e s' H'=>(match r with | (.inl v)=>e = .ret∧RetQ H [.tmp 6,.tmp 7] [.i v.1,.i v.2] e s' H' | (.inr v)=>PX 0 [] (H++[]) e s' H':Prop)) () ho8 rfl rfl (fun _ _=>rfl) (fun _=>rfl) rfl (fun s2=>(bdc (C0b g2_h.1) (bdc G7 (bdc A5 (bdc A5 bdn))))) (fun q3 s2 ys2 hs2=>?_) ?_
  ·unfold A0i at hs2
   refine s0<|A0 (F8 rfl rfl) rfl<|es (ra5 rfl rfl rfl rfl rfl)<|B6<|wi hs2 rfl (fun hc4 hs2=>?_) fun hc4 hs2=>?_
   ·refine C1<|B6<|C5<|sg 0 rfl<|oB hs2 fun x5 hx5 hs2=>qm rfl<|A0 (E6 (f:=A9) rfl rfl hx5) rfl<|A0 (O2 rfl rfl) rfl<|A0 D6 rfl<|qm rfl<|F0 (C7 (ds:=(A9 x5)) rfl rfl rfl rfl (C0 rfl) rfl) rfl<|es (ra6 rfl rfl rfl rfl rfl rfl)<|s0<|oB hs2 fun x6 hx6 hs2=>qm rfl<|qm rfl<|A0 (C2 rfl rfl rfl) rfl<|B4 (rs:=[.i x6]) rfl rfl (A1 rfl (A1 (C8 rfl) B5)) (Impl.call g2_h hx6 _)<|qm rfl<|es (ra6 rfl rfl rfl rfl rfl rfl)<|s0<|qm rfl<|A0 (G2 rfl rfl) rfl<|es (ra7 rfl rfl rfl rfl rfl rfl rfl)<|wi hs2 rfl (fun hc7 hs2=>?_) fun hc7 hs2=>?_
    ·refine s0<|qm rfl<|qm rfl<|qm rfl<|qm rfl<|es (ra2 rfl rfl)<|C6 ?_
     obtain rfl:=os hs2
     exact lx rfl (And.intro rfl (retq trivial (B1 rfl (B1 rfl B9)) (A4 rfl (A4 rfl B8)) (A3 A5 (A3 A5 B3)))) (Sub.refl _)
    ·refine C1<|r0<|A0 (E1 rfl rfl) rfl<|qm rfl<|en (ra4 rfl rfl rfl rfl) ?_
     cases hs2
     exact lnT () rfl (su4 rfl rfl rfl rfl)
   ·refine E4 ?_
    obtain rfl:=os hs2
    exact lx rfl px (.nil _)
  ·rcases o8 with vo8_0 | vo8_1
   ·rintro e s' H' - ⟨rfl,hret⟩
    cases h
    exact hret
   ·rintro e s' H' - ⟨rfl,rfl,rfl⟩
    refine s0<|qm rfl<|qm rfl<|es (ra2 rfl rfl)<|C6 ?_
    obtain rfl:=os h
    exact retq trivial (B1 rfl (B1 rfl B9)) (A4 rfl (A4 rfl B8)) (A3 A5 (A3 A5 B3))
def A0s (a0:(List RoPlace)) (g2:((Int × RoPlace)→Option Int)) (s2:Int):Option (Int ⊕ ((Int × Int) ⊕ Unit)) :=
 if (decide (s2 < (List.length a0:Int))) = true then
  (idx a0 s2).bind fun x5 =>
  (g2 (s2,x5)).bind fun x6 =>
  if (x6 != 0) = true then
  some (.inr (.inl (s2,x6)))
  else
  some (.inl (w64 (s2 + 1)))
 else
  some (.inr (.inr ()))
def Z0 (a0:(List RoPlace)) (a1:Int) (g2:((Int × RoPlace)→Option Int)):Option (Int × Int) :=
 if (decide ((List.length a0:Int) > a1)) = true then
  some (0,3)
 else
  (loop (A0s a0 g2) 0).bind fun (o8:((Int × Int) ⊕ Unit)) =>
  match o8 with
  | (.inl vo8_0) =>
  some vo8_0
  | (.inr vo8_1) =>
  some (0,0)
theorem A9d {c:Sc} {H:A7} {a0:(List RoPlace)} {a1:Int} {g2:(Int × RoPlace)→Option Int} {g2_i:Nat} {g2_f g2_c:List AV} (g2_h:Impl tab H g2_i g2_f g2_c g2 (fun y=>[.i y.1,(.agg (B7 y.2))]) (fun y=>[.i y])) {r:(Int × Int)} (h:Z0 a0 a1 g2 = some r) :
  F1 tab c H (.fn (.func 65) [] []) [(.seq 4 (List.map B7 a0)),.i a1,.fn (.func g2_i) g2_f g2_c] [.i r.1,.i r.2]:= by
 unfold Z0 at h
 refine cE rfl rfl<|s0<|qm rfl<|qm rfl<|es (ra3 rfl rfl rfl)<|B6<|s0<|qm rfl<|A0 (D8 (f:=B7) rfl) rfl<|qm rfl<|A0 (A0a rfl rfl) rfl<|es (ra3 rfl rfl rfl)<|wi h rfl (fun hc1 h=>?_) fun hc1 h=>?_
 ·refine s0<|qm rfl<|qm rfl<|es (ra2 rfl rfl)<|C6 ?_
  obtain rfl:=os h
  exact retq trivial (B1 rfl (B1 rfl B9)) (A4 rfl (A4 rfl B8)) (A3 A5 (A3 A5 B3))
 ·refine C1<|B6<|s0<|qm rfl<|A0 (D8 (f:=B7) rfl) rfl<|qm rfl<|es (ra4 rfl rfl rfl rfl)<|C5<|oB h fun o8 ho8 h=>wl (fun s2=>[(2,(.fn (.func g2_i) g2_f g2_c)),(15,(.seq 4 (List.map B7 a0))),(16,(.i (List.length a0:Int))),(17,.i s2)]) (fun (q3:Unit) s2=>[]) 0 (fun r e s' H'=>(match r with | (.inl v)=>e = .ret∧RetQ H [.tmp 6,.tmp 7] [.i v.1,.i v.2] e s' H' | (.inr v)=>PX 0 [] (H++[]) e s' H':Prop)) () ho8 rfl rfl (fun _ _=>rfl) (fun _=>rfl) rfl (fun s2=>(bdc (C0b g2_h.1) (bdc G7 (bdc A5 (bdc A5 bdn))))) (fun q3 s2 ys2 hs2=>?_) ?_
  ·unfold A0s at hs2
   refine s0<|A0 (F8 rfl rfl) rfl<|es (ra5 rfl rfl rfl rfl rfl)<|B6<|wi hs2 rfl (fun hc4 hs2=>?_) fun hc4 hs2=>?_
   ·refine C1<|B6<|C5<|sg 0 rfl<|oB hs2 fun x5 hx5 hs2=>qm rfl<|A0 (E6 (f:=B7) rfl rfl hx5) rfl<|A0 (O2 rfl rfl) rfl<|A0 D6 rfl<|qm rfl<|F0 (C7 (ds:=(B7 x5)) rfl rfl rfl rfl (C0 rfl) rfl) rfl<|es (ra6 rfl rfl rfl rfl rfl rfl)<|s0<|oB hs2 fun x6 hx6 hs2=>qm rfl<|qm rfl<|A0 (C2 rfl rfl rfl) rfl<|B4 (rs:=[.i x6]) rfl rfl (A1 rfl (A1 (C8 rfl) B5)) (Impl.call g2_h hx6 _)<|qm rfl<|es (ra6 rfl rfl rfl rfl rfl rfl)<|s0<|qm rfl<|A0 (G2 rfl rfl) rfl<|es (ra7 rfl rfl rfl rfl rfl rfl rfl)<|wi hs2 rfl (fun hc7 hs2=>?_) fun hc7 hs2=>?_
    ·refine s0<|qm rfl<|qm rfl<|qm rfl<|qm rfl<|es (ra2 rfl rfl)<|C6 ?_
     obtain rfl:=os hs2
     exact lx rfl (And.intro rfl (retq trivial (B1 rfl (B1 rfl B9)) (A4 rfl (A4 rfl B8)) (A3 A5 (A3 A5 B3)))) (Sub.refl _)
    ·refine C1<|r0<|A0 (E1 rfl rfl) rfl<|qm rfl<|en (ra4 rfl rfl rfl rfl) ?_
     cases hs2
     exact lnT () rfl (su4 rfl rfl rfl rfl)
   ·refine E4 ?_
    obtain rfl:=os hs2
    exact lx rfl px (.nil _)
  ·rcases o8 with vo8_0 | vo8_1
   ·rintro e s' H' - ⟨rfl,hret⟩
    cases h
    exact hret
   ·rintro e s' H' - ⟨rfl,rfl,rfl⟩
    refine s0<|qm rfl<|qm rfl<|es (ra2 rfl rfl)<|C6 ?_
    obtain rfl:=os h
    exact retq trivial (B1 rfl (B1 rfl B9)) (A4 rfl (A4 rfl B8)) (A3 A5 (A3 A5 B3))
def A6i (a0:(List Int)) (g2:((Int × Int)→Option Int)) (s2:Int):Option (Int ⊕ ((Int × Int) ⊕ Unit)) :=
 if (decide (s2 < (List.length a0:Int))) = true then
  (idx a0 s2).bind fun x5 =>
  (g2 (s2,x5)).bind fun x6 =>
  if (x6 != 0) = true then
  some (.inr (.inl (s2,x6)))
  else
  some (.inl (w64 (s2 + 1)))
 else
  some (.inr (.inr ()))
def A3w (a0:(List Int)) (a1:Int) (g2:((Int × Int)→Option Int)):Option (Int × Int) :=
 if (decide ((List.length a0:Int) > a1)) = true then
  some (0,3)
 else
  (loop (A6i a0 g2) 0).bind fun (o8:((Int × Int) ⊕ Unit)) =>
  match o8 with
  | (.inl vo8_0) =>
  some vo8_0
  | (.inr vo8_1) =>
  some (0,0)
theorem A9o {c:Sc} {H:A7} {a0:(List Int)} {a1:Int} {g2:(Int × Int)→Option Int} {g2_i:Nat} {g2_f g2_c:List AV} (g2_h:Impl tab H g2_i g2_f g2_c g2 (fun y=>[.i y.1,.i y.2]) (fun y=>[.i y])) {r:(Int × Int)} (h:A3w a0 a1 g2 = some r) :
  F1 tab c H (.fn (.func 63) [] []) [(.seq 1 (List.map cI a0)),.i a1,.fn (.func g2_i) g2_f g2_c] [.i r.1,.i r.2]:= by
 unfold A3w at h
 refine cE rfl rfl<|s0<|qm rfl<|qm rfl<|es (ra3 rfl rfl rfl)<|B6<|s0<|qm rfl<|A0 (D8 (f:=cI) rfl) rfl<|qm rfl<|A0 (A0a rfl rfl) rfl<|es (ra3 rfl rfl rfl)<|wi h rfl (fun hc1 h=>?_) fun hc1 h=>?_
 ·refine s0<|qm rfl<|qm rfl<|es (ra2 rfl rfl)<|C6 ?_
  obtain rfl:=os h
  exact retq trivial (B1 rfl (B1 rfl B9)) (A4 rfl (A4 rfl B8)) (A3 A5 (A3 A5 B3))
 ·refine C1<|B6<|s0<|qm rfl<|A0 (D8 (f:=cI) rfl) rfl<|qm rfl<|es (ra4 rfl rfl rfl rfl)<|C5<|oB h fun o8 ho8 h=>wl (fun s2=>[(2,(.fn (.func g2_i) g2_f g2_c)),(15,(.seq 1 (List.map cI a0))),(16,(.i (List.length a0:Int))),(17,.i s2)]) (fun (q3:Unit) s2=>[]) 0 (fun r e s' H'=>(match r with | (.inl v)=>e = .ret∧RetQ H [.tmp 6,.tmp 7] [.i v.1,.i v.2] e s' H' | (.inr v)=>PX 0 [] (H++[]) e s' H':Prop)) () ho8 rfl rfl (fun _ _=>rfl) (fun _=>rfl) rfl (fun s2=>(bdc (C0b g2_h.1) (bdc G7 (bdc A5 (bdc A5 bdn))))) (fun q3 s2 ys2 hs2=>?_) ?_
  ·unfold A6i at hs2
   refine s0<|A0 (F8 rfl rfl) rfl<|es (ra5 rfl rfl rfl rfl rfl)<|B6<|wi hs2 rfl (fun hc4 hs2=>?_) fun hc4 hs2=>?_
   ·refine C1<|B6<|C5<|s0<|oB hs2 fun x5 hx5 hs2=>qm rfl<|A0 (E6 (f:=cI) rfl rfl hx5) rfl<|A0 (E9 rfl rfl) rfl<|qm rfl<|qm rfl<|es (ra6 rfl rfl rfl rfl rfl rfl)<|s0<|oB hs2 fun x6 hx6 hs2=>qm rfl<|qm rfl<|qm rfl<|B4 (rs:=[.i x6]) rfl rfl (A1 rfl (A1 rfl B5)) (Impl.call g2_h hx6 _)<|qm rfl<|es (ra6 rfl rfl rfl rfl rfl rfl)<|s0<|qm rfl<|A0 (G2 rfl rfl) rfl<|es (ra7 rfl rfl rfl rfl rfl rfl rfl)<|wi hs2 rfl (fun hc7 hs2=>?_) fun hc7 hs2=>?_
    ·refine s0<|qm rfl<|qm rfl<|qm rfl<|qm rfl<|es (ra2 rfl rfl)<|C6 ?_
     obtain rfl:=os hs2
     exact lx rfl (And.intro rfl (retq trivial (B1 rfl (B1 rfl B9)) (A4 rfl (A4 rfl B8)) (A3 A5 (A3 A5 B3)))) (Sub.refl _)
    ·refine C1<|r0<|A0 (E1 rfl rfl) rfl<|qm rfl<|en (ra4 rfl rfl rfl rfl) ?_
     cases hs2
     exact lnT () rfl (su4 rfl rfl rfl rfl)
   ·refine E4 ?_
    obtain rfl:=os hs2
    exact lx rfl px (.nil _)
  ·rcases o8 with vo8_0 | vo8_1
   ·rintro e s' H' - ⟨rfl,hret⟩
    cases h
    exact hret
   ·rintro e s' H' - ⟨rfl,rfl,rfl⟩
    refine s0<|qm rfl<|qm rfl<|es (ra2 rfl rfl)<|C6 ?_
    obtain rfl:=os h
    exact retq trivial (B1 rfl (B1 rfl B9)) (A4 rfl (A4 rfl B8)) (A3 A5 (A3 A5 B3))
def S3 (a0:Int) (a1:Int) (a2:Int) (a3:Int):Option Int :=
 (H7 a2 a3 [a1]).bind fun x1 =>
 if x1 = true then
  some 7
 else
  some 0
theorem B0v {c:Sc} {H:A7} {a0:Int} {a1:Int} {a2:Int} {b2:Nat} (hb2:hcells H b2 = some (cI a2)) {a3:Int} {b3:Nat} (hb3:hcells H b3 = some (cI a3)) {r:Int} (h:S3 a0 a1 a2 a3 = some r) :
  F1 tab c H (.fn (.func 106) [] []) [.i a0,.i a1,.ptr b2 0,.ptr b3 0] [.i r]:= by
 unfold S3 at h
 refine cE rfl rfl<|s0<|qm rfl<|es (ra3 rfl rfl rfl)<|B6<|s0<|oB h fun x1 hx1 h=>A0 (J9 rfl hb2 rfl) rfl<|A0 (J9 rfl hb3 rfl) rfl<|qm rfl<|A0 (J5 (rows:=List.map cI [a1]) rfl rfl (E2 (fun _=>rfl) _)) rfl<|B4 (rs:=[.b x1]) rfl rfl (A1 rfl (A1 rfl (A1 rfl B5))) ((I4 hx1).frz)<|es (ra1 rfl)<|wi h rfl (fun hc2 h=>?_) fun hc2 h=>?_
 ·refine s0<|qm rfl<|es (ra1 rfl)<|C6 ?_
  obtain rfl:=os h
  exact retq trivial (B1 rfl B9) (A4 rfl B8) (A3 A5 B3)
 ·refine C1<|s0<|qm rfl<|es (ra1 rfl)<|C6 ?_
  obtain rfl:=os h
  exact retq trivial (B1 rfl B9) (A4 rfl B8) (A3 A5 B3)
def R0 (a0:RoHouse):Option (Int × Int × Int) :=
 (A6w a0.Weather (-100) 100).bind fun x1 =>
 if (x1 != 0) = true then
  some (1,0,x1)
 else
  (H7 0 3 [a0.Stoves]).bind fun x3 =>
  if x3 = true then
  some (2,0,7)
  else
  (A3w a0.Holds 4 (fun (y:(Int × Int))=>S3 y.1 y.2 0 2000)).bind fun x5 =>
  if (x5.2 != 0) = true then
   some (3,x5.1,x5.2)
  else
   (Z0 a0.Places 5 (fun (y:(Int × RoPlace))=>Y8 y.1 y.2 a0)).bind fun x7 =>
   if (x7.2 != 0) = true then
   some (4,x7.1,x7.2)
   else
   (X1 a0.Figures 5 (fun (y:(Int × RoFigure))=>Y9 y.1 y.2 a0)).bind fun x9 =>
   if (x9.2 != 0) = true then
    some (5,x9.1,x9.2)
   else
    (A3w a0.Bill 3 (fun (y:(Int × Int))=>S3 y.1 y.2 0 9)).bind fun x11 =>
    if (x11.2 != 0) = true then
    some (6,x11.1,x11.2)
    else
    some (0,0,0)
theorem R9 {c:Sc} {H:A7} {a0:RoHouse} {r:(Int × Int × Int)} (h:R0 a0 = some r) :
  F1 tab c H (.fn (.func 17) [] []) [(.agg (A2 a0))] [.i r.1,.i r.2.1,.i r.2.2]:= by
 unfold R0 at h
 refine cE rfl rfl<|sg 0 rfl<|A0 (F3 (cs:=A2 a0) rfl rfl rfl) rfl<|qm rfl<|qm rfl<|qm rfl<|es (ra1 rfl)<|B6<|s0<|oB h fun x1 hx1 h=>A0 (C4 rfl) rfl<|A0 (E3 (ds:=D5 a0.Weather) rfl rfl rfl rfl) rfl<|B4 (rs:=[.i x1]) rfl rfl (A1 (C8 rfl) (A1 rfl (A1 rfl B5))) ((B1p hx1).frz)<|qm rfl<|es (ra2 rfl rfl)<|s0<|qm rfl<|A0 (G2 rfl rfl) rfl<|es (ra3 rfl rfl rfl)<|wi h rfl (fun hc2 h=>?_) fun hc2 h=>?_
 ·refine s0<|qm rfl<|qm rfl<|qm rfl<|qm rfl<|es (ra3 rfl rfl rfl)<|C6 ?_
  obtain rfl:=os h
  exact retq trivial (B1 rfl (B1 rfl (B1 rfl B9))) (A4 rfl (A4 rfl (A4 rfl B8))) (A3 A5 (A3 A5 (A3 A5 B3)))
 ·refine C1<|B6<|s0<|oB h fun x3 hx3 h=>A0 (C4 rfl) rfl<|A0 (C3 rfl rfl rfl) rfl<|A0 (J5 (rows:=List.map cI [a0.Stoves]) rfl rfl (E2 (fun _=>rfl) _)) rfl<|B4 (rs:=[.b x3]) rfl rfl (A1 rfl (A1 rfl (A1 rfl B5))) ((I4 hx3).frz)<|es (ra2 rfl rfl)<|wi h rfl (fun hc4 h=>?_) fun hc4 h=>?_
  ·refine s0<|qm rfl<|qm rfl<|qm rfl<|es (ra3 rfl rfl rfl)<|C6 ?_
   obtain rfl:=os h
   exact retq trivial (B1 rfl (B1 rfl (B1 rfl B9))) (A4 rfl (A4 rfl (A4 rfl B8))) (A3 A5 (A3 A5 (A3 A5 B3)))
  ·refine C1<|B6<|s0<|C1m (as2:=[.i 0,.i 2000]) (H1:=(H++[.dead])) [0] (W5 [] rfl (A0y rfl X4 I6) rfl rfl) (seen0 rfl) rfl rfl (A1 rfl (A1 rfl B5)) rfl rfl rfl (W8 rfl)<|sg 1 rfl<|A0 (F3 (cs:=cI 0) rfl rfl rfl) rfl<|A0 (F3 (cs:=cI 2000) rfl rfl rfl) rfl<|qm rfl<|es (ra2 rfl rfl)<|s0<|A0 (A7n rfl rfl) rfl<|qm rfl<|es (ra1 rfl)<|C6<|InlH.mk (l2:=[(.cells (A2 a0)),(.cells (cI 0)),(.cells (cI 2000))]) trivial ⟨_,_,_,[(.fn (.func 106) [] [(.ptr (H.length + 1) 0),(.ptr (H.length + 2) 0)])],_,(B1 rfl B9),(A4 rfl B8),(Y5 (O0 (C0c (O0 (Y3 rfl)))) (D2 rfl J7)),rfl,rfl,?_⟩
   refine oB h fun x5 hx5 h=>A0 (C4 rfl) rfl<|S8 [] (W5 [] rfl I6 rfl rfl) (A6j (b:=H.length + 0) rfl (A0x (Q7 _ rfl) A3y)) (C3 rfl rfl rfl) rfl<|B4 (rs:=[.i x5.1,.i x5.2]) rfl rfl (A1 rfl (A1 rfl (A1 rfl B5))) ((A9o (show Impl _ _ 106 [] [(.ptr (H.length + 1) 0),(.ptr (H.length + 2) 0)] (fun (y:(Int × Int))=>S3 y.1 y.2 0 2000) (fun (y:(Int × Int))=>[.i y.1,.i y.2]) (fun (y:Int)=>[.i y]) from ⟨⟨B3,(by rw [List.length_append]; exact (A3 (D4 rfl) (A3 (D4 rfl) B3)))⟩,fun H' hle hag c y r hr=>(A5k (B0v (hag _ _ (D9 rfl)) (hag _ _ (D9 rfl)) hr)).frz⟩) hx5).frz)<|qm rfl<|A0 (A6 rfl rfl) rfl<|A0 (A6 rfl rfl) rfl<|qm rfl<|qm rfl<|es (ra3 rfl rfl rfl)<|s0<|qm rfl<|A0 (G2 rfl rfl) rfl<|es (ra4 rfl rfl rfl rfl)<|wi h rfl (fun hc6 h=>?_) fun hc6 h=>?_
   ·refine s0<|qm rfl<|qm rfl<|qm rfl<|qm rfl<|qm rfl<|es (ra3 rfl rfl rfl)<|C6 ?_
    obtain rfl:=os h
    exact retq trivial (B1 rfl (B1 rfl (B1 rfl B9))) (A4 rfl (A4 rfl (A4 rfl B8))) (A3 A5 (A3 A5 (A3 A5 B3)))
   ·refine C1<|s0<|oB h fun x7 hx7 h=>A0 (C4 rfl) rfl<|A0 (C3 rfl rfl rfl) rfl<|A0 (A7n rfl rfl) rfl<|B4 (rs:=[.i x7.1,.i x7.2]) rfl rfl (A1 rfl (A1 rfl (A1 rfl B5))) ((A9d (show Impl _ _ 66 [] [(.ptr (H.length + 0) 0)] (fun (y:(Int × RoPlace))=>Y8 y.1 y.2 a0) (fun (y:(Int × RoPlace))=>[.i y.1,(.agg (B7 y.2))]) (fun (y:Int)=>[.i y]) from ⟨⟨B3,(by rw [List.length_append]; exact (A3 (D4 rfl) B3))⟩,fun H' hle hag c y r hr=>(A5k (B9j (hag _ _ (D9 rfl)) hr)).frz⟩) hx7).frz)<|qm rfl<|A0 (A6 rfl rfl) rfl<|A0 (A6 rfl rfl) rfl<|qm rfl<|qm rfl<|es (ra3 rfl rfl rfl)<|B6<|s0<|qm rfl<|A0 (G2 rfl rfl) rfl<|es (ra4 rfl rfl rfl rfl)<|wi h rfl (fun hc8 h=>?_) fun hc8 h=>?_
    ·refine s0<|qm rfl<|qm rfl<|qm rfl<|qm rfl<|qm rfl<|es (ra3 rfl rfl rfl)<|C6 ?_
     obtain rfl:=os h
     exact retq trivial (B1 rfl (B1 rfl (B1 rfl B9))) (A4 rfl (A4 rfl (A4 rfl B8))) (A3 A5 (A3 A5 (A3 A5 B3)))
    ·refine C1<|s0<|oB h fun x9 hx9 h=>A0 (C4 rfl) rfl<|A0 (C3 rfl rfl rfl) rfl<|A0 (A7n rfl rfl) rfl<|B4 (rs:=[.i x9.1,.i x9.2]) rfl rfl (A1 rfl (A1 rfl (A1 rfl B5))) ((A8w (show Impl _ _ 73 [] [(.ptr (H.length + 0) 0)] (fun (y:(Int × RoFigure))=>Y9 y.1 y.2 a0) (fun (y:(Int × RoFigure))=>[.i y.1,(.agg (A9 y.2))]) (fun (y:Int)=>[.i y]) from ⟨⟨B3,(by rw [List.length_append]; exact (A3 (D4 rfl) B3))⟩,fun H' hle hag c y r hr=>(A5k (B9k (hag _ _ (D9 rfl)) hr)).frz⟩) hx9).frz)<|qm rfl<|A0 (A6 rfl rfl) rfl<|A0 (A6 rfl rfl) rfl<|qm rfl<|qm rfl<|es (ra3 rfl rfl rfl)<|B6<|s0<|qm rfl<|A0 (G2 rfl rfl) rfl<|es (ra4 rfl rfl rfl rfl)<|wi h rfl (fun hc10 h=>?_) fun hc10 h=>?_
     ·refine s0<|qm rfl<|qm rfl<|qm rfl<|qm rfl<|qm rfl<|es (ra3 rfl rfl rfl)<|C6 ?_
      obtain rfl:=os h
      exact retq trivial (B1 rfl (B1 rfl (B1 rfl B9))) (A4 rfl (A4 rfl (A4 rfl B8))) (A3 A5 (A3 A5 (A3 A5 B3)))
     ·refine C1<|B6<|s0<|C1m (as2:=[.i 0,.i 9]) (H1:=(H++[.dead,(.cells (cI 0)),(.cells (cI 2000))])) [0] (W5 [] rfl (A0y rfl X4 I6) rfl rfl) (seen0 rfl) rfl rfl (A1 rfl (A1 rfl B5)) rfl rfl rfl (W8 rfl)<|sg 3 rfl<|A0 (F3 (cs:=cI 0) rfl rfl rfl) rfl<|A0 (F3 (cs:=cI 9) rfl rfl rfl) rfl<|qm rfl<|es (ra2 rfl rfl)<|s0<|A0 (A7n rfl rfl) rfl<|qm rfl<|es (ra1 rfl)<|C6<|InlH.mk (l2:=[(.cells (A2 a0)),(.cells (cI 0)),(.cells (cI 2000)),(.cells (cI 0)),(.cells (cI 9))]) trivial ⟨_,_,_,[(.fn (.func 106) [] [(.ptr (H.length + 3) 0),(.ptr (H.length + 4) 0)])],_,(B1 rfl B9),(A4 rfl B8),(Y5 (O0 (C0c (O0 (Y3 rfl)))) (D2 rfl J7)),rfl,rfl,?_⟩
      refine oB h fun x11 hx11 h=>A0 (C4 rfl) rfl<|S8 [] (W5 [] rfl I6 rfl rfl) (A6j (b:=H.length + 0) rfl (A0x (Q7 _ rfl) A3y)) (C3 rfl rfl rfl) rfl<|B4 (rs:=[.i x11.1,.i x11.2]) rfl rfl (A1 rfl (A1 rfl (A1 rfl B5))) ((A9o (show Impl _ _ 106 [] [(.ptr (H.length + 3) 0),(.ptr (H.length + 4) 0)] (fun (y:(Int × Int))=>S3 y.1 y.2 0 9) (fun (y:(Int × Int))=>[.i y.1,.i y.2]) (fun (y:Int)=>[.i y]) from ⟨⟨B3,(by rw [List.length_append]; exact (A3 (D4 rfl) (A3 (D4 rfl) B3)))⟩,fun H' hle hag c y r hr=>(A5k (B0v (hag _ _ (D9 rfl)) (hag _ _ (D9 rfl)) hr)).frz⟩) hx11).frz)<|qm rfl<|A0 (A6 rfl rfl) rfl<|A0 (A6 rfl rfl) rfl<|qm rfl<|qm rfl<|es (ra2 rfl rfl)<|s0<|qm rfl<|A0 (G2 rfl rfl) rfl<|es (ra3 rfl rfl rfl)<|wi h rfl (fun hc12 h=>?_) fun hc12 h=>?_
      ·refine s0<|qm rfl<|qm rfl<|qm rfl<|qm rfl<|qm rfl<|es (ra3 rfl rfl rfl)<|C6 ?_
       obtain rfl:=os h
       exact retq trivial (B1 rfl (B1 rfl (B1 rfl B9))) (A4 rfl (A4 rfl (A4 rfl B8))) (A3 A5 (A3 A5 (A3 A5 B3)))
      ·refine C1<|s0<|qm rfl<|qm rfl<|qm rfl<|es (ra3 rfl rfl rfl)<|C6 ?_
       obtain rfl:=os h
       exact retq trivial (B1 rfl (B1 rfl (B1 rfl B9))) (A4 rfl (A4 rfl (A4 rfl B8))) (A3 A5 (A3 A5 (A3 A5 B3)))
end Rm
end
