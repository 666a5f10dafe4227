/- Texts that the claim stands on, one behind another. -/
import Derived.Test.YtbheamjhjgoccaaDoorA4
import Derived.Test.YtbheamjhjgoccaaDoorChecked
import Derived.KernelRfl
set_option linter.unusedVariables false
set_option linter.unusedSimpArgs false
set_option linter.unnecessarySimpa false
section
set_option maxRecDepth 100000
set_option maxHeartbeats 0
namespace Go.Proofs.YtbheamjhjgoccaaDoor
open Go Am Go.Proofs
theorem m7:C7 Tryd.prog Tryd.f7 Cd.a7 = true:= by kernel_rfl
theorem m17:C7 Tryd.prog Tryd.f17 Cd.a17 = true:= by kernel_rfl
theorem m19:C7 Tryd.prog Tryd.f19 Cd.a19 = true:= by kernel_rfl
theorem m21:C7 Tryd.prog Tryd.f21 Cd.a21 = true:= by kernel_rfl
theorem m23:C7 Tryd.prog Tryd.f23 Cd.a23 = true:= by kernel_rfl
theorem m24:C7 Tryd.prog Tryd.f24 Cd.a24 = true:= by kernel_rfl
theorem m26:C7 Tryd.prog Tryd.f26 Cd.a26 = true:= by kernel_rfl
theorem m27:C7 Tryd.prog Tryd.f27 Cd.a27 = true:= by kernel_rfl
theorem m29:C7 Tryd.prog Tryd.f29 Cd.a29 = true:= by kernel_rfl
theorem m31:C7 Tryd.prog Tryd.f31 Cd.a31 = true:= by kernel_rfl
theorem m33:C7 Tryd.prog Tryd.f33 Cd.a33 = true:= by kernel_rfl
theorem m34:C7 Tryd.prog Tryd.f34 Cd.a34 = true:= by kernel_rfl
theorem m36:C7 Tryd.prog Tryd.f36 Cd.a36 = true:= by kernel_rfl
theorem m38:C7 Tryd.prog Tryd.f38 Cd.a38 = true:= by kernel_rfl
theorem m40:C7 Tryd.prog Tryd.f40 Cd.a40 = true:= by kernel_rfl
theorem m41:C7 Tryd.prog Tryd.f41 Cd.a41 = true:= by kernel_rfl
theorem m42:C7 Tryd.prog Tryd.f42 Cd.a42 = true:= by kernel_rfl
theorem m61:C7 Tryd.prog Tryd.f61 Cd.a61 = true:= by kernel_rfl
theorem m62:C7 Tryd.prog Tryd.f62 Cd.a62 = true:= by kernel_rfl
theorem m63:C7 Tryd.prog Tryd.f63 Cd.a63 = true:= by kernel_rfl
theorem m64:C7 Tryd.prog Tryd.f64 Cd.a64 = true:= by kernel_rfl
theorem m65:C7 Tryd.prog Tryd.f65 Cd.a65 = true:= by kernel_rfl
theorem m66:C7 Tryd.prog Tryd.f66 Cd.a66 = true:= by kernel_rfl
theorem m67:C7 Tryd.prog Tryd.f67 Cd.a67 = true:= by kernel_rfl
theorem m68:C7 Tryd.prog Tryd.f68 Cd.a68 = true:= by kernel_rfl
theorem m69:C7 Tryd.prog Tryd.f69 Cd.a69 = true:= by kernel_rfl
theorem m70:C7 Tryd.prog Tryd.f70 Cd.a70 = true:= by kernel_rfl
theorem m71:C7 Tryd.prog Tryd.f71 Cd.a71 = true:= by kernel_rfl
theorem m72:C7 Tryd.prog Tryd.f72 Cd.a72 = true:= by kernel_rfl
theorem m73:C7 Tryd.prog Tryd.f73 Cd.a73 = true:= by kernel_rfl
theorem m74:C7 Tryd.prog Tryd.f74 Cd.a74 = true:= by kernel_rfl
theorem m75:C7 Tryd.prog Tryd.f75 Cd.a75 = true:= by kernel_rfl
theorem m81:C7 Tryd.prog Tryd.f81 Cd.a81 = true:= by kernel_rfl
theorem m82:C7 Tryd.prog Tryd.f82 Cd.a82 = true:= by kernel_rfl
theorem m83:C7 Tryd.prog Tryd.f83 Cd.a83 = true:= by kernel_rfl
theorem m86:C7 Tryd.prog Tryd.f86 Cd.a86 = true:= by kernel_rfl
theorem m87:C7 Tryd.prog Tryd.f87 Cd.a87 = true:= by kernel_rfl
theorem m88:C7 Tryd.prog Tryd.f88 Cd.a88 = true:= by kernel_rfl
theorem m89:C7 Tryd.prog Tryd.f89 Cd.a89 = true:= by kernel_rfl
theorem m90:C7 Tryd.prog Tryd.f90 Cd.a90 = true:= by kernel_rfl
theorem m91:C7 Tryd.prog Tryd.f91 Cd.a91 = true:= by kernel_rfl
theorem m93:C7 Tryd.prog Tryd.f93 Cd.a93 = true:= by kernel_rfl
theorem m95:C7 Tryd.prog Tryd.f95 Cd.a95 = true:= by kernel_rfl
theorem m96:C7 Tryd.prog Tryd.f96 Cd.a96 = true:= by kernel_rfl
theorem m97:C7 Tryd.prog Tryd.f97 Cd.a97 = true:= by kernel_rfl
theorem m100:C7 Tryd.prog Tryd.f100 Cd.a100 = true:= by kernel_rfl
theorem m102:C7 Tryd.prog Tryd.f102 Cd.a102 = true:= by kernel_rfl
theorem m104:C7 Tryd.prog Tryd.f104 Cd.a104 = true:= by kernel_rfl
theorem m105:C7 Tryd.prog Tryd.f105 Cd.a105 = true:= by kernel_rfl
theorem m106:C7 Tryd.prog Tryd.f106 Cd.a106 = true:= by kernel_rfl
theorem m107:C7 Tryd.prog Tryd.f107 Cd.a107 = true:= by kernel_rfl
theorem m108:C7 Tryd.prog Tryd.f108 Cd.a108 = true:= by kernel_rfl
theorem m112:C7 Tryd.prog Tryd.f112 Cd.a112 = true:= by kernel_rfl
theorem m113:C7 Tryd.prog Tryd.f113 Cd.a113 = true:= by kernel_rfl
theorem m114:C7 Tryd.prog Tryd.f114 Cd.a114 = true:= by kernel_rfl
theorem m115:C7 Tryd.prog Tryd.f115 Cd.a115 = true:= by kernel_rfl
theorem m116:C7 Tryd.prog Tryd.f116 Cd.a116 = true:= by kernel_rfl
theorem m117:C7 Tryd.prog Tryd.f117 Cd.a117 = true:= by kernel_rfl
theorem m118:C7 Tryd.prog Tryd.f118 Cd.a118 = true:= by kernel_rfl
theorem m119:C7 Tryd.prog Tryd.f119 Cd.a119 = true:= by kernel_rfl
theorem m121:C7 Tryd.prog Tryd.f121 Cd.a121 = true:= by kernel_rfl
theorem m122:C7 Tryd.prog Tryd.f122 Cd.a122 = true:= by kernel_rfl
theorem m123:C7 Tryd.prog Tryd.f123 Cd.a123 = true:= by kernel_rfl
theorem m124:C7 Tryd.prog Tryd.f124 Cd.a124 = true:= by kernel_rfl
theorem m125:C7 Tryd.prog Tryd.f125 Cd.a125 = true:= by kernel_rfl
theorem m126:C7 Tryd.prog Tryd.f126 Cd.a126 = true:= by kernel_rfl
theorem m127:C7 Tryd.prog Tryd.f127 Cd.a127 = true:= by kernel_rfl
theorem C53:B2x Tryd.prog Cd.tab:= by
 intro i af h
 unfold Cd.tab at h
 split at h
 ·cases h; exact ⟨Tryd.f7,Tryd.func7,m7⟩
 ·cases h; exact ⟨Tryd.f17,Tryd.func17,m17⟩
 ·cases h; exact ⟨Tryd.f19,Tryd.func19,m19⟩
 ·cases h; exact ⟨Tryd.f21,Tryd.func21,m21⟩
 ·cases h; exact ⟨Tryd.f23,Tryd.func23,m23⟩
 ·cases h; exact ⟨Tryd.f24,Tryd.func24,m24⟩
 ·cases h; exact ⟨Tryd.f26,Tryd.func26,m26⟩
 ·cases h; exact ⟨Tryd.f27,Tryd.func27,m27⟩
 ·cases h; exact ⟨Tryd.f29,Tryd.func29,m29⟩
 ·cases h; exact ⟨Tryd.f31,Tryd.func31,m31⟩
 ·cases h; exact ⟨Tryd.f33,Tryd.func33,m33⟩
 ·cases h; exact ⟨Tryd.f34,Tryd.func34,m34⟩
 ·cases h; exact ⟨Tryd.f36,Tryd.func36,m36⟩
 ·cases h; exact ⟨Tryd.f38,Tryd.func38,m38⟩
 ·cases h; exact ⟨Tryd.f40,Tryd.func40,m40⟩
 ·cases h; exact ⟨Tryd.f41,Tryd.func41,m41⟩
 ·cases h; exact ⟨Tryd.f42,Tryd.func42,m42⟩
 ·cases h; exact ⟨Tryd.f61,Tryd.func61,m61⟩
 ·cases h; exact ⟨Tryd.f62,Tryd.func62,m62⟩
 ·cases h; exact ⟨Tryd.f63,Tryd.func63,m63⟩
 ·cases h; exact ⟨Tryd.f64,Tryd.func64,m64⟩
 ·cases h; exact ⟨Tryd.f65,Tryd.func65,m65⟩
 ·cases h; exact ⟨Tryd.f66,Tryd.func66,m66⟩
 ·cases h; exact ⟨Tryd.f67,Tryd.func67,m67⟩
 ·cases h; exact ⟨Tryd.f68,Tryd.func68,m68⟩
 ·cases h; exact ⟨Tryd.f69,Tryd.func69,m69⟩
 ·cases h; exact ⟨Tryd.f70,Tryd.func70,m70⟩
 ·cases h; exact ⟨Tryd.f71,Tryd.func71,m71⟩
 ·cases h; exact ⟨Tryd.f72,Tryd.func72,m72⟩
 ·cases h; exact ⟨Tryd.f73,Tryd.func73,m73⟩
 ·cases h; exact ⟨Tryd.f74,Tryd.func74,m74⟩
 ·cases h; exact ⟨Tryd.f75,Tryd.func75,m75⟩
 ·cases h; exact ⟨Tryd.f81,Tryd.func81,m81⟩
 ·cases h; exact ⟨Tryd.f82,Tryd.func82,m82⟩
 ·cases h; exact ⟨Tryd.f83,Tryd.func83,m83⟩
 ·cases h; exact ⟨Tryd.f86,Tryd.func86,m86⟩
 ·cases h; exact ⟨Tryd.f87,Tryd.func87,m87⟩
 ·cases h; exact ⟨Tryd.f88,Tryd.func88,m88⟩
 ·cases h; exact ⟨Tryd.f89,Tryd.func89,m89⟩
 ·cases h; exact ⟨Tryd.f90,Tryd.func90,m90⟩
 ·cases h; exact ⟨Tryd.f91,Tryd.func91,m91⟩
 ·cases h; exact ⟨Tryd.f93,Tryd.func93,m93⟩
 ·cases h; exact ⟨Tryd.f95,Tryd.func95,m95⟩
 ·cases h; exact ⟨Tryd.f96,Tryd.func96,m96⟩
 ·cases h; exact ⟨Tryd.f97,Tryd.func97,m97⟩
 ·cases h; exact ⟨Tryd.f100,Tryd.func100,m100⟩
 ·cases h; exact ⟨Tryd.f102,Tryd.func102,m102⟩
 ·cases h; exact ⟨Tryd.f104,Tryd.func104,m104⟩
 ·cases h; exact ⟨Tryd.f105,Tryd.func105,m105⟩
 ·cases h; exact ⟨Tryd.f106,Tryd.func106,m106⟩
 ·cases h; exact ⟨Tryd.f107,Tryd.func107,m107⟩
 ·cases h; exact ⟨Tryd.f108,Tryd.func108,m108⟩
 ·cases h; exact ⟨Tryd.f112,Tryd.func112,m112⟩
 ·cases h; exact ⟨Tryd.f113,Tryd.func113,m113⟩
 ·cases h; exact ⟨Tryd.f114,Tryd.func114,m114⟩
 ·cases h; exact ⟨Tryd.f115,Tryd.func115,m115⟩
 ·cases h; exact ⟨Tryd.f116,Tryd.func116,m116⟩
 ·cases h; exact ⟨Tryd.f117,Tryd.func117,m117⟩
 ·cases h; exact ⟨Tryd.f118,Tryd.func118,m118⟩
 ·cases h; exact ⟨Tryd.f119,Tryd.func119,m119⟩
 ·cases h; exact ⟨Tryd.f121,Tryd.func121,m121⟩
 ·cases h; exact ⟨Tryd.f122,Tryd.func122,m122⟩
 ·cases h; exact ⟨Tryd.f123,Tryd.func123,m123⟩
 ·cases h; exact ⟨Tryd.f124,Tryd.func124,m124⟩
 ·cases h; exact ⟨Tryd.f125,Tryd.func125,m125⟩
 ·cases h; exact ⟨Tryd.f126,Tryd.func126,m126⟩
 ·cases h; exact ⟨Tryd.f127,Tryd.func127,m127⟩
 ·cases h
end Go.Proofs.YtbheamjhjgoccaaDoor
end
section
set_option maxRecDepth 100000
set_option maxHeartbeats 0
namespace Rm
open Go Am Go.Proofs.YtbheamjhjgoccaaDoor.Cd
structure Span where
 mk ::
 (Lo:Int)
 (Hi:Int)
 deriving DecidableEq
def E0 (x:Span):List AV:=[.i x.Lo,.i x.Hi]
structure RoPlace where
 mk ::
 (Name:ByteArray)
 (Dear:Bool)
 (Warms:(List Span))
 (Joists:Int)
 deriving DecidableEq
def B5 (x:RoPlace):List AV:=[.s x.Name,.b x.Dear,(.seq 2 (List.map E0 x.Warms)),.i x.Joists]
structure RoFigure where
 mk ::
 (Name:ByteArray)
 (Class:Int)
 (Weight:Int)
 (Cracks:Int)
 (Slumps:Int)
 (Worth:Int)
 deriving DecidableEq
def B2 (x:RoFigure):List AV:=[.s x.Name,.i x.Class,.i x.Weight,.i x.Cracks,.i x.Slumps,.i x.Worth]
structure RoHouse where
 mk ::
 (Weather:Span)
 (Stoves:Int)
 (Holds:(List Int))
 (Places:(List RoPlace))
 (Figures:(List RoFigure))
 (Bill:(List Int))
 deriving DecidableEq
def A6 (x:RoHouse):List AV:=[.i x.Weather.Lo,.i x.Weather.Hi,.i x.Stoves,(.seq 1 (List.map cI x.Holds)),(.seq 4 (List.map B5 x.Places)),(.seq 6 (List.map B2 x.Figures)),(.seq 1 (List.map cI x.Bill))]
structure room_house where
 mk ::
 (RoHouse:RoHouse)
 deriving DecidableEq
structure RoPlan where
 mk ::
 (Lit:Int)
 (At:(List Int))
 deriving DecidableEq
def B8 (x:RoPlan):List AV:=[.i x.Lit,(.seq 1 (List.map cI x.At))]
structure room_plan where
 mk ::
 (lit_:Int)
 (at_:(Ar5 Int))
 deriving DecidableEq
def A1 (x:room_plan):List AV:=[.i x.lit_,.i x.at_.x0,.i x.at_.x1,.i x.at_.x2,.i x.at_.x3,.i x.at_.x4]
structure law05_Easier where
 mk ::
 (Holds:Int)
 (Bears:Int)
 (Less:Int)
 (Weather:(Ar2 Int))
 (Further:RoFigure)
 deriving DecidableEq
def A2b (x:law05_Easier):List AV:=[(.lit (.int .u8 x.Holds)),(.lit (.int .u8 x.Bears)),(.lit (.int .u8 x.Less)),(.lit (.int .u8 x.Weather.x0)),(.lit (.int .u8 x.Weather.x1)),.s x.Further.Name,.i x.Further.Class,.i x.Further.Weight,.i x.Further.Cracks,.i x.Further.Slumps,.i x.Further.Worth]
def A0j (a0:ByteArray) (a1:Int) (a2:Int) (a3:Span) (a4:Int):Option RoFigure :=
 some (RoFigure.mk a0 a1 a2 a3.Lo a3.Hi a4)
theorem A1n {c:Sc} {H:A3} {a0:ByteArray} {a1:Int} {a2:Int} {a3:Span} {a4:Int} {r:RoFigure} (h:A0j a0 a1 a2 a3 a4 = some r) :
  E8 tab c H (.fn (.func 102) [] []) [.s a0,.i a1,.i a2,(.agg (E0 a3)),.i a4] [(.agg (B2 r))]:= by
 unfold A0j at h
 refine cE rfl rfl<|sg 0 rfl<|A0 (G2 (cs:=E0 a3) rfl rfl rfl) rfl<|A0 D2 rfl<|es (ra6 rfl rfl rfl rfl rfl rfl)<|s0<|qm rfl<|qm rfl<|qm rfl<|A0 (C9 rfl) rfl<|A0 (D1 rfl rfl rfl) rfl<|A0 (C9 rfl) rfl<|A0 (D1 rfl rfl rfl) rfl<|qm rfl<|A0 (F2 (cs:=B2 (RoFigure.mk a0 a1 a2 a3.Lo a3.Hi a4)) rfl rfl) rfl<|E4 (C1 (ds:=(B2 (RoFigure.mk a0 a1 a2 a3.Lo a3.Hi a4))) rfl rfl rfl rfl (B3 rfl) rfl) rfl<|es (ra1 rfl)<|C4 ?_
 obtain rfl:=os h
 exact retq trivial (E5 (E2 (ds:=B2 (RoFigure.mk a0 a1 a2 a3.Lo a3.Hi a4)) rfl rfl rfl rfl) B7) (A4 (H9 rfl) B6) (A2 (F9 rfl) B1)
def Q2 (a0:Int) (a1:Int):Option Span :=
 some (Span.mk a0 a1)
theorem O1 {c:Sc} {H:A3} {a0:Int} {a1:Int} {r:Span} (h:Q2 a0 a1 = some r) :
  E8 tab c H (.fn (.func 42) [] []) [.i a0,.i a1] [(.agg (E0 r))]:= by
 unfold Q2 at h
 refine cE rfl rfl<|sg 0 rfl<|A0 D2 rfl<|es (ra3 rfl rfl rfl)<|s0<|qm rfl<|qm rfl<|A0 (F2 (cs:=E0 (Span.mk a0 a1)) rfl rfl) rfl<|E4 (C1 (ds:=(E0 (Span.mk a0 a1))) rfl rfl rfl rfl (B3 rfl) rfl) rfl<|es (ra1 rfl)<|C4 ?_
 obtain rfl:=os h
 exact retq trivial (E5 (E2 (ds:=E0 (Span.mk a0 a1)) rfl rfl rfl rfl) B7) (A4 (H9 rfl) B6) (A2 (F9 rfl) B1)
def W0 (a0:(List Int)):Option RoHouse :=
 (Q2 30 50).bind fun x1 =>
 (Q2 0 2).bind fun x2 =>
 (Q2 15 20).bind fun x3 =>
 (Q2 8 10).bind fun x4 =>
 (Q2 40 75).bind fun x5 =>
 (A0j (ByteArray.mk #[107,105,110,103]) 1 200 x5 9).bind fun x6 =>
 (Q2 30 60).bind fun x7 =>
 (A0j (ByteArray.mk #[110,117,110]) 2 150 x7 5).bind fun x8 =>
 (Q2 35 65).bind fun x9 =>
 (A0j (ByteArray.mk #[116,104,105,101,102]) 3 120 x9 7).bind fun x10 =>
 some (RoHouse.mk x1 1 [300,250] [(RoPlace.mk (ByteArray.mk #[100,111,111,114]) false [x2] 1),(RoPlace.mk (ByteArray.mk #[104,101,97,114,116,104]) true [x3] 3),(RoPlace.mk (ByteArray.mk #[110,105,99,104,101]) true [x4] 2)] [x6,x8,x10] a0)
theorem W2 {c:Sc} {H:A3} {a0:(List Int)} {r:RoHouse} (h:W0 a0 = some r) :
  E8 tab c H (.fn (.func 40) [] []) [(.seq 1 (List.map cI a0))] [(.agg (A6 r))]:= by
 unfold W0 at h
 refine cE rfl rfl<|sg 0 rfl<|A0 D2 rfl<|es (ra2 rfl rfl)<|s0<|oB h fun x1 hx1 h=>oB h fun x2 hx2 h=>oB h fun x3 hx3 h=>oB h fun x4 hx4 h=>oB h fun x5 hx5 h=>oB h fun x6 hx6 h=>oB h fun x7 hx7 h=>oB h fun x8 hx8 h=>oB h fun x9 hx9 h=>oB h fun x10 hx10 h=>C2 (rs:=[(.agg (E0 x1))]) rfl rfl (A5 rfl (A5 rfl B9)) ((O1 hx1).frz)<|A0 (K3 (rows:=List.map cI [300,250]) rfl rfl (E6 (fun _=>rfl) _)) rfl<|C2 (rs:=[(.agg (E0 x2))]) rfl rfl (A5 rfl (A5 rfl B9)) ((O1 hx2).frz)<|A0 (K3 (rows:=List.map E0 [x2]) rfl rfl (E6 (fun _=>rfl) _)) rfl<|A0 (F2 (cs:=B5 (RoPlace.mk (ByteArray.mk #[100,111,111,114]) false [x2] 1)) rfl rfl) rfl<|C2 (rs:=[(.agg (E0 x3))]) rfl rfl (A5 rfl (A5 rfl B9)) ((O1 hx3).frz)<|A0 (K3 (rows:=List.map E0 [x3]) rfl rfl (E6 (fun _=>rfl) _)) rfl<|A0 (F2 (cs:=B5 (RoPlace.mk (ByteArray.mk #[104,101,97,114,116,104]) true [x3] 3)) rfl rfl) rfl<|C2 (rs:=[(.agg (E0 x4))]) rfl rfl (A5 rfl (A5 rfl B9)) ((O1 hx4).frz)<|A0 (K3 (rows:=List.map E0 [x4]) rfl rfl (E6 (fun _=>rfl) _)) rfl<|A0 (F2 (cs:=B5 (RoPlace.mk (ByteArray.mk #[110,105,99,104,101]) true [x4] 2)) rfl rfl) rfl<|A0 (K3 (rows:=List.map B5 [(RoPlace.mk (ByteArray.mk #[100,111,111,114]) false [x2] 1),(RoPlace.mk (ByteArray.mk #[104,101,97,114,116,104]) true [x3] 3),(RoPlace.mk (ByteArray.mk #[110,105,99,104,101]) true [x4] 2)]) rfl rfl (E6 (fun _=>rfl) _)) rfl<|C2 (rs:=[(.agg (E0 x5))]) rfl rfl (A5 rfl (A5 rfl B9)) ((O1 hx5).frz)<|C2 (rs:=[(.agg (B2 x6))]) rfl rfl (A5 rfl (A5 rfl (A5 rfl (A5 (D9 rfl) (A5 rfl B9))))) ((A1n hx6).frz)<|C2 (rs:=[(.agg (E0 x7))]) rfl rfl (A5 rfl (A5 rfl B9)) ((O1 hx7).frz)<|C2 (rs:=[(.agg (B2 x8))]) rfl rfl (A5 rfl (A5 rfl (A5 rfl (A5 (D9 rfl) (A5 rfl B9))))) ((A1n hx8).frz)<|C2 (rs:=[(.agg (E0 x9))]) rfl rfl (A5 rfl (A5 rfl B9)) ((O1 hx9).frz)<|C2 (rs:=[(.agg (B2 x10))]) rfl rfl (A5 rfl (A5 rfl (A5 rfl (A5 (D9 rfl) (A5 rfl B9))))) ((A1n hx10).frz)<|A0 (K3 (rows:=List.map B2 [x6,x8,x10]) rfl rfl (E6 (fun _=>rfl) _)) rfl<|qm rfl<|A0 (F2 (cs:=A6 (RoHouse.mk x1 1 [300,250] [(RoPlace.mk (ByteArray.mk #[100,111,111,114]) false [x2] 1),(RoPlace.mk (ByteArray.mk #[104,101,97,114,116,104]) true [x3] 3),(RoPlace.mk (ByteArray.mk #[110,105,99,104,101]) true [x4] 2)] [x6,x8,x10] a0)) rfl rfl) rfl<|E4 (C1 (ds:=(A6 (RoHouse.mk x1 1 [300,250] [(RoPlace.mk (ByteArray.mk #[100,111,111,114]) false [x2] 1),(RoPlace.mk (ByteArray.mk #[104,101,97,114,116,104]) true [x3] 3),(RoPlace.mk (ByteArray.mk #[110,105,99,104,101]) true [x4] 2)] [x6,x8,x10] a0))) rfl rfl rfl rfl (B3 rfl) rfl) rfl<|es (ra1 rfl)<|C4 ?_
 obtain rfl:=os h
 exact retq trivial (E5 (E2 (ds:=A6 (RoHouse.mk x1 1 [300,250] [(RoPlace.mk (ByteArray.mk #[100,111,111,114]) false [x2] 1),(RoPlace.mk (ByteArray.mk #[104,101,97,114,116,104]) true [x3] 3),(RoPlace.mk (ByteArray.mk #[110,105,99,104,101]) true [x4] 2)] [x6,x8,x10] a0)) rfl rfl rfl rfl) B7) (A4 (H9 rfl) B6) (A2 (F9 rfl) B1)
def W1 (a0:Int) (a1:(List Int)):Option RoPlan :=
 some (RoPlan.mk a0 a1)
theorem V3 {c:Sc} {H:A3} {a0:Int} {a1:(List Int)} {r:RoPlan} (h:W1 a0 a1 = some r) :
  E8 tab c H (.fn (.func 41) [] []) [.i a0,(.seq 1 (List.map cI a1))] [(.agg (B8 r))]:= by
 unfold W1 at h
 refine cE rfl rfl<|sg 0 rfl<|A0 D2 rfl<|es (ra3 rfl rfl rfl)<|s0<|qm rfl<|qm rfl<|A0 (F2 (cs:=B8 (RoPlan.mk a0 a1)) rfl rfl) rfl<|E4 (C1 (ds:=(B8 (RoPlan.mk a0 a1))) rfl rfl rfl rfl (B3 rfl) rfl) rfl<|es (ra1 rfl)<|C4 ?_
 obtain rfl:=os h
 exact retq trivial (E5 (E2 (ds:=B8 (RoPlan.mk a0 a1)) rfl rfl rfl rfl) B7) (A4 (H9 rfl) B6) (A2 (F9 rfl) B1)
def A6o (a0:(List Int)) (a1:(List Int)) (s1:(Bool × Int)):Option ((Bool × Int) ⊕ Bool) :=
 if (s1.1 && (decide (s1.2 < (List.length a0:Int)))) = true then
  (idx a0 s1.2).bind fun x5 =>
  (idx a1 s1.2).bind fun x6 =>
  some (.inl ((x5 == x6),(w64 (s1.2 + 1))))
 else
  some (.inr s1.1)
def A00 (a0:(List Int)) (a1:(List Int)):Option Bool :=
 (loop (A6o a0 a1) (((List.length a0:Int) == (List.length a1:Int)),0)).bind fun (o7:Bool) =>
 some o7
theorem A05 {c:Sc} {H:A3} {a0:(List Int)} {a1:(List Int)} {r:Bool} (h:A00 a0 a1 = some r) :
  E8 tab c H (.fn (.func 26) [] []) [(.seq 1 (List.map cI a0)),(.seq 1 (List.map cI a1))] [.b r]:= by
 unfold A00 at h
 refine cE rfl rfl<|s0<|qm rfl<|es (ra2 rfl rfl)<|s0<|qm rfl<|A0 (E9 (f:=cI) rfl) rfl<|qm rfl<|A0 (E9 (f:=cI) rfl) rfl<|A0 (J6 rfl rfl) rfl<|qm rfl<|es (ra3 rfl rfl rfl)<|C3<|s0<|qm rfl<|es (ra4 rfl rfl rfl rfl)<|D0<|oB h fun o7 ho7 h=>wl (fun s1=>[(0,(.seq 1 (List.map cI a0))),(1,(.seq 1 (List.map cI a1))),(5,.b s1.1),(6,.i s1.2)]) (fun (q2:Unit) s1=>[]) 0 (fun r e s' H'=>PX 0 [(5,.b r)] (H++[]) e s' H') () ho7 rfl rfl (fun _ _=>rfl) (fun _=>rfl) rfl (fun s1=>(bdc M4 (bdc M4 (bdc A8 (bdc A8 bdn))))) (fun q2 s1 ys1 hs1=>?_) ?_
 ·unfold A6o at hs1
  refine C3<|s0<|qm rfl<|qm rfl<|gp 5 18 (.b (s1.1 && (decide (s1.2 < (List.length a0:Int))))) 13 rfl rfl (fun hg3=>?_) (fun hg3=>?_) ?_
  ·exact gT rfl hg3<|qm rfl<|gT rfl hg3<|qm rfl<|gT rfl hg3<|A0 (E9 (f:=cI) rfl) rfl<|gT rfl hg3<|A0 (L7 rfl rfl) rfl<|A0 (D6 rfl hg3 rfl) rfl<|ge 5 (by rw [hg3]; rfl) rfl rfl
  ·exact nT rfl hg3 rfl<|nT rfl hg3 rfl<|nT rfl hg3 rfl<|nT rfl hg3 rfl<|A0 (D7 rfl hg3 rfl) rfl<|ge 5 (by rw [hg3]; rfl) rfl rfl
  refine es (ra5 rfl rfl rfl rfl rfl)<|wi hs1 rfl (fun hc4 hs1=>?_) fun hc4 hs1=>?_
  ·refine C6<|C3<|D0<|r0<|oB hs1 fun x5 hx5 hs1=>oB hs1 fun x6 hx6 hs1=>qm rfl<|qm rfl<|A0 (N7 (f:=cI) rfl rfl hx5) rfl<|A0 (P7 rfl rfl) rfl<|qm rfl<|qm rfl<|A0 (N7 (f:=cI) rfl rfl hx6) rfl<|A0 (P7 rfl rfl) rfl<|A0 (J6 rfl rfl) rfl<|qm rfl<|en (ra4 rfl rfl rfl rfl)<|r0<|qm rfl<|A0 (I1 rfl rfl) rfl<|qm rfl<|en (ra4 rfl rfl rfl rfl) ?_
   cases hs1
   exact lnT () rfl (su4 rfl rfl rfl rfl)
  ·refine J0 ?_
   obtain rfl:=os hs1
   exact lx rfl px (su1 rfl)
 ·rintro e s' H' - ⟨rfl,rfl,rfl⟩
  refine s0<|qm rfl<|qm rfl<|es (ra1 rfl)<|C4 ?_
  obtain rfl:=os h
  exact retq trivial (A9 rfl B7) (A4 rfl B6) (A2 A8 B1)
def A4l (a0:RoPlan) (a1:RoPlan):Option Bool :=
 (if (a0.Lit == a1.Lit) = true then
  (A00 a0.At a1.At).bind fun x2 =>
  some x2
 else
  some false).bind fun x3 =>
 some x3
theorem A6j {c:Sc} {H:A3} {a0:RoPlan} {a1:RoPlan} {r:Bool} (h:A4l a0 a1 = some r) :
  E8 tab c H (.fn (.func 33) [] []) [(.agg (B8 a0)),(.agg (B8 a1))] [.b r]:= by
 unfold A4l at h
 refine cE rfl rfl<|sg 0 rfl<|A0 (G2 (cs:=B8 a0) rfl rfl rfl) rfl<|A0 (G2 (cs:=B8 a1) rfl rfl rfl) rfl<|qm rfl<|es (ra2 rfl rfl)<|s0<|oB h fun x3 hx3 h=>A0 (C9 rfl) rfl<|A0 (D1 rfl rfl rfl) rfl<|A0 (C9 rfl) rfl<|A0 (D1 rfl rfl rfl) rfl<|A0 (J6 rfl rfl) rfl<|qm rfl<|gp 6 16 (.b x3) 10 rfl rfl (fun hg1=>?_) (fun hg1=>?_) ?_
 ·refine oB (bt hx3 hg1) fun x2 hx2 hx3=>?_
  obtain rfl:=os hx3
  exact gT rfl hg1<|A0 (C9 rfl) rfl<|gT rfl hg1<|A0 (D1 rfl rfl rfl) rfl<|gT rfl hg1<|A0 (C9 rfl) rfl<|gT rfl hg1<|A0 (D1 rfl rfl rfl) rfl<|gT rfl hg1<|C2 (rs:=[.b x2]) rfl rfl (A5 rfl (A5 rfl B9)) ((A05 hx2).frz)<|A0 (D6 rfl hg1 rfl) rfl<|ge 6 rfl rfl rfl
 ·obtain rfl:=os (bf hx3 hg1)
  exact nT rfl hg1 rfl<|nT rfl hg1 rfl<|nT rfl hg1 rfl<|nT rfl hg1 rfl<|T4 (K9 rfl (by rw [hg1]; rfl)) rfl<|A0 (D7 rfl hg1 rfl) rfl<|ge 6 rfl rfl rfl
 refine qm rfl<|es (ra1 rfl)<|C4 ?_
 obtain rfl:=os h
 exact retq trivial (A9 rfl B7) (A4 rfl B6) (A2 A8 B1)
def A6h (a0:ByteArray) (s1:Nat):Option (Nat ⊕ (Bool ⊕ Nat)) :=
 if (decide (s1 < ByteArray.size a0)) = true then
  if ((!((decide (97≤((Utf8.decode a0 s1).1:Int))) && (decide (((Utf8.decode a0 s1).1:Int)≤122)))) && (((s1:Int) == 0) || ((((Utf8.decode a0 s1).1:Int) != 46) && ((decide (((Utf8.decode a0 s1).1:Int) < 48)) || (decide (((Utf8.decode a0 s1).1:Int) > 57)))))) = true then
  some (.inr (.inl false))
  else
  some (.inl (s1 + (Utf8.decode a0 s1).2))
 else
  some (.inr (.inr s1))
def A4f (a0:ByteArray):Option Bool :=
 (loop (A6h a0) (0:Nat)).bind fun (o10:(Bool ⊕ Nat)) =>
 match o10 with
 | (.inl vo10_0) =>
  some vo10_0
 | (.inr vo10_1) =>
  some ((!eqS a0 (ByteArray.mk #[])) && (decide ((ByteArray.size a0:Int)≤16)))
theorem A6i {c:Sc} {H:A3} {a0:ByteArray} {r:Bool} (h:A4f a0 = some r) :
  E8 tab c H (.fn (.func 67) [] []) [.s a0] [.b r]:= by
 unfold A4f at h
 refine cE rfl rfl<|s0<|qm rfl<|es (ra1 rfl)<|C3<|sg 0 rfl<|qm rfl<|A0 (C2j rfl) rfl<|es (ra2 rfl rfl)<|D0<|oB h fun o10 ho10 h=>wl (fun s1=>[(0,.s a0),(7,(.itr (H.length + 0)))]) (fun (q2:Unit) s1=>[.iter a0 s1]) 1 (fun r e s' H'=>(match r with | (.inl v)=>e = .ret∧RetQ H [.tmp 2] [.b v] e s' H' | (.inr v)=>PX 0 [(0,.s a0)] (H++[.iter a0 v]) e s' H':Prop)) () ho10 rfl rfl (fun _ _=>rfl) (fun _=>rfl) rfl (fun s1=>(bdc A8 (bdc (C3f rfl) bdn))) (fun q2 s1 ys1 hs1=>?_) ?_
 ·unfold A6h at hs1
  by_cases hc3:(decide (s1 < ByteArray.size a0)) = true
  ·rw [if_pos hc3] at hs1
   refine s0<|B1s (C2h rfl rfl (of_decide_eq_true hc3)) rfl<|A0 (A7 rfl rfl) rfl<|es (ra4 rfl rfl rfl rfl)<|C3<|I3 rfl rfl<|C6<|D0<|s0<|A0 (A7 rfl rfl) rfl<|A0 (A7 rfl rfl) rfl<|qm rfl<|qm rfl<|es (ra4 rfl rfl rfl rfl)<|s0<|qm rfl<|A0 (B9v rfl rfl) rfl<|qm rfl<|gp 3 17 (.b ((decide (97≤((Utf8.decode a0 s1).1:Int))) && (decide (((Utf8.decode a0 s1).1:Int)≤122)))) 14 rfl rfl (fun hg4=>?_) (fun hg4=>?_) ?_
   ·exact gT rfl hg4<|qm rfl<|gT rfl hg4<|A0 (B9v rfl rfl) rfl<|A0 (D6 rfl hg4 rfl) rfl<|ge 3 (by rw [hg4]; rfl) rfl rfl
   ·exact nT rfl hg4 rfl<|nT rfl hg4 rfl<|A0 (D7 rfl hg4 rfl) rfl<|ge 3 (by rw [hg4]; rfl) rfl rfl
   refine qm rfl<|es (ra5 rfl rfl rfl rfl rfl)<|s0<|qm rfl<|A0 (A5t rfl) rfl<|qm rfl<|gp 15 35 (.b ((!((decide (97≤((Utf8.decode a0 s1).1:Int))) && (decide (((Utf8.decode a0 s1).1:Int)≤122)))) && (((s1:Int) == 0) || ((((Utf8.decode a0 s1).1:Int) != 46) && ((decide (((Utf8.decode a0 s1).1:Int) < 48)) || (decide (((Utf8.decode a0 s1).1:Int) > 57))))))) 20 rfl rfl (fun hg5=>?_) (fun hg5=>?_) ?_
   ·refine gT rfl hg5<|qm rfl<|gT rfl hg5<|A0 (J6 rfl rfl) rfl<|gT rfl hg5<|qm rfl<|gq 11 34 (.b (((s1:Int) == 0) || ((((Utf8.decode a0 s1).1:Int) != 46) && ((decide (((Utf8.decode a0 s1).1:Int) < 48)) || (decide (((Utf8.decode a0 s1).1:Int) > 57)))))) 23 rfl rfl (fun hg6=>?_) (fun hg6=>?_) ?_
    ·exact nF rfl hg6 rfl<|nF rfl hg6 rfl<|nF rfl hg6 rfl<|nX rfl rfl<|nX rfl rfl<|nX rfl rfl<|nX rfl rfl<|nX rfl rfl<|nX rfl rfl<|nF rfl hg6 rfl<|gT rfl hg5<|A0 (D6 rfl hg6 rfl) rfl<|ge 11 (by rw [hg6]; rfl) rfl rfl
    ·refine gF rfl hg6<|qm rfl<|gF rfl hg6<|A0 (M7 rfl rfl) rfl<|gF rfl hg6<|qm rfl<|gq 7 33 (.b ((((Utf8.decode a0 s1).1:Int) != 46) && ((decide (((Utf8.decode a0 s1).1:Int) < 48)) || (decide (((Utf8.decode a0 s1).1:Int) > 57))))) 26 rfl rfl (fun hg7=>?_) (fun hg7=>?_) ?_
     ·refine gT rfl hg7<|qm rfl<|gT rfl hg7<|A0 (L7 rfl rfl) rfl<|gT rfl hg7<|qm rfl<|gq 3 32 (.b ((decide (((Utf8.decode a0 s1).1:Int) < 48)) || (decide (((Utf8.decode a0 s1).1:Int) > 57)))) 29 rfl rfl (fun hg8=>?_) (fun hg8=>?_) ?_
      ·exact nF rfl hg8 rfl<|nF rfl hg8 rfl<|gT rfl hg7<|A0 (D6 rfl hg8 rfl) rfl<|ge 3 (by rw [hg8]; rfl) rfl rfl
      ·exact gF rfl hg8<|qm rfl<|gF rfl hg8<|A0 (A09 rfl rfl) rfl<|gT rfl hg7<|A0 (D7 rfl hg8 rfl) rfl<|ge 3 (by rw [hg8]; rfl) rfl rfl
      exact gF rfl hg6<|A0 (D6 rfl hg7 rfl) rfl<|ge 5 (by rw [hg7]; rfl) rfl rfl
     ·exact nT rfl hg7 rfl<|nT rfl hg7 rfl<|nT rfl hg7 rfl<|nX rfl rfl<|nX rfl rfl<|nT rfl hg7 rfl<|gF rfl hg6<|A0 (D7 rfl hg7 rfl) rfl<|ge 7 (by rw [hg7]; rfl) rfl rfl
     exact gT rfl hg5<|A0 (D7 rfl hg6 rfl) rfl<|ge 5 (by rw [hg6]; rfl) rfl rfl
    exact A0 (D6 rfl hg5 rfl) rfl<|ge 5 (by rw [hg5]; rfl) rfl rfl
   ·exact nT rfl hg5 rfl<|nT rfl hg5 rfl<|nT rfl hg5 rfl<|nX rfl rfl<|nX rfl rfl<|nX rfl rfl<|nX rfl rfl<|nX rfl rfl<|nX rfl rfl<|nX rfl rfl<|nX rfl rfl<|nX rfl rfl<|nX rfl rfl<|nT rfl hg5 rfl<|A0 (D7 rfl hg5 rfl) rfl<|ge 15 (by rw [hg5]; rfl) rfl rfl
   refine es (ra3 rfl rfl rfl)<|wi hs1 rfl (fun hc9 hs1=>?_) fun hc9 hs1=>?_
   ·refine s0<|qm rfl<|es (ra1 rfl)<|C4 ?_
    obtain rfl:=os hs1
    exact lx rfl (And.intro rfl (retq trivial (A9 rfl B7) (A4 rfl B6) (A2 A8 B1))) (Sub.refl _)
   ·refine C6 ?_
    cases hs1
    exact lnT () rfl (su2 rfl rfl)
  ·rw [if_neg hc3] at hs1
   refine s0<|B1s (C2g rfl rfl (fun hn=>hc3 (decide_eq_true hn))) rfl<|A0 (A7 rfl rfl) rfl<|es (ra4 rfl rfl rfl rfl)<|C3<|V8 rfl rfl<|J0 ?_
   obtain rfl:=os hs1
   exact lx rfl px (su1 rfl)
 ·rcases o10 with vo10_0 | vo10_1
  ·rintro e s' H' - ⟨rfl,hret⟩
   cases h
   exact hret
  ·rintro e s' H' - ⟨rfl,rfl,rfl⟩
   refine s0<|qm rfl<|A0 (C42 rfl rfl) rfl<|qm rfl<|gp 4 42 (.b ((!eqS a0 (ByteArray.mk #[])) && (decide ((ByteArray.size a0:Int)≤16)))) 38 rfl rfl (fun hg11=>?_) (fun hg11=>?_) ?_
   ·exact gT rfl hg11<|qm rfl<|gT rfl hg11<|A0 (C3w rfl) rfl<|gT rfl hg11<|A0 (B9v rfl rfl) rfl<|A0 (D6 rfl hg11 rfl) rfl<|ge 4 (by rw [hg11]; rfl) rfl rfl
   ·exact nT rfl hg11 rfl<|nT rfl hg11 rfl<|nT rfl hg11 rfl<|A0 (D7 rfl hg11 rfl) rfl<|ge 4 (by rw [hg11]; rfl) rfl rfl
   refine qm rfl<|es (ra1 rfl)<|C4 ?_
   obtain rfl:=os h
   exact retq trivial (A9 rfl B7) (A4 rfl B6) (A2 A8 B1)
def A0o (a0:RoPlace) (a1:RoPlace):Option Bool :=
 some (eqS a0.Name a1.Name)
theorem A72 {c:Sc} {H:A3} {a0:RoPlace} {a1:RoPlace} {b1:Nat} (hb1:hcells H b1 = some (B5 a1)) {r:Bool} (h:A0o a0 a1 = some r) :
  E8 tab c H (.fn (.func 69) [] []) [(.agg (B5 a0)),.ptr b1 0] [.b r]:= by
 unfold A0o at h
 refine cE rfl rfl<|sg 0 rfl<|A0 (G2 (cs:=B5 a0) rfl rfl rfl) rfl<|qm rfl<|es (ra2 rfl rfl)<|s0<|A0 (C9 rfl) rfl<|A0 (D1 rfl rfl rfl) rfl<|A0 (C9 rfl) rfl<|A0 (G6 rfl hb1 rfl) rfl<|A0 (C22 rfl rfl) rfl<|qm rfl<|es (ra1 rfl)<|C4 ?_
 obtain rfl:=os h
 exact retq trivial (A9 rfl B7) (A4 rfl B6) (A2 A8 B1)
def A06 (a0:Int) (a1:Int) (a2:Int):Option Bool :=
 some ((decide (a0 < a1)) || (decide (a0 > a2)))
theorem A83 {c:Sc} {H:A3} {a0:Int} {a1:Int} {b1:Nat} (hb1:hcells H b1 = some (cI a1)) {a2:Int} {b2:Nat} (hb2:hcells H b2 = some (cI a2)) {r:Bool} (h:A06 a0 a1 a2 = some r) :
  E8 tab c H (.fn (.func 105) [] []) [.i a0,.ptr b1 0,.ptr b2 0] [.b r]:= by
 unfold A06 at h
 refine cE rfl rfl<|s0<|qm rfl<|es (ra3 rfl rfl rfl)<|s0<|qm rfl<|A0 (G6 rfl hb1 rfl) rfl<|A0 (L7 rfl rfl) rfl<|qm rfl<|gp 4 12 (.b ((decide (a0 < a1)) || (decide (a0 > a2)))) 8 rfl rfl (fun hg1=>?_) (fun hg1=>?_) ?_
 ·exact nF rfl hg1 rfl<|nF rfl hg1 rfl<|nF rfl hg1 rfl<|A0 (D6 rfl hg1 rfl) rfl<|ge 4 (by rw [hg1]; rfl) rfl rfl
 ·exact gF rfl hg1<|qm rfl<|gF rfl hg1<|A0 (G6 rfl hb2 rfl) rfl<|gF rfl hg1<|A0 (A09 rfl rfl) rfl<|A0 (D7 rfl hg1 rfl) rfl<|ge 4 (by rw [hg1]; rfl) rfl rfl
 refine qm rfl<|es (ra1 rfl)<|C4 ?_
 obtain rfl:=os h
 exact retq trivial (A9 rfl B7) (A4 rfl B6) (A2 A8 B1)
def V7 (a0:(List Int)) (g1:(Int→Option Bool)) (s1:Int):Option (Int ⊕ (Int ⊕ Unit)) :=
 if (decide (s1 < (List.length a0:Int))) = true then
  (idx a0 s1).bind fun x4 =>
  (g1 x4).bind fun x5 =>
  if x5 = true then
  some (.inr (.inl s1))
  else
  some (.inl (w64 (s1 + 1)))
 else
  some (.inr (.inr ()))
def S8 (a0:(List Int)) (g1:(Int→Option Bool)):Option Int :=
 (loop (V7 a0 g1) 0).bind fun (o7:(Int ⊕ Unit)) =>
 match o7 with
 | (.inl vo7_0) =>
  some vo7_0
 | (.inr vo7_1) =>
  some (-1)
theorem A1z {c:Sc} {H:A3} {a0:(List Int)} {g1:Int→Option Bool} {g1_i:Nat} {g1_f g1_c:List AV} (g1_h:Impl tab H g1_i g1_f g1_c g1 (fun y=>[.i y]) (fun y=>[.b y])) {r:Int} (h:S8 a0 g1 = some r) :
  E8 tab c H (.fn (.func 123) [] []) [(.seq 1 (List.map cI a0)),.fn (.func g1_i) g1_f g1_c] [.i r]:= by
 unfold S8 at h
 refine cE rfl rfl<|s0<|qm rfl<|es (ra2 rfl rfl)<|C3<|s0<|qm rfl<|A0 (E9 (f:=cI) rfl) rfl<|qm rfl<|es (ra4 rfl rfl rfl rfl)<|D0<|oB h fun o7 ho7 h=>wl (fun s1=>[(0,(.seq 1 (List.map cI a0))),(1,(.fn (.func g1_i) g1_f g1_c)),(7,(.i (List.length a0:Int))),(8,.i s1)]) (fun (q2:Unit) s1=>[]) 0 (fun r e s' H'=>(match r with | (.inl v)=>e = .ret∧RetQ H [.tmp 4] [.i v] e s' H' | (.inr v)=>PX 0 [] (H++[]) e s' H':Prop)) () ho7 rfl rfl (fun _ _=>rfl) (fun _=>rfl) rfl (fun s1=>(bdc M4 (bdc (B0m g1_h.1) (bdc A8 (bdc A8 bdn))))) (fun q2 s1 ys1 hs1=>?_) ?_
 ·unfold V7 at hs1
  refine s0<|A0 (L7 rfl rfl) rfl<|es (ra5 rfl rfl rfl rfl rfl)<|C3<|wi hs1 rfl (fun hc3 hs1=>?_) fun hc3 hs1=>?_
  ·refine C6<|C3<|D0<|s0<|qm rfl<|qm rfl<|es (ra5 rfl rfl rfl rfl rfl)<|s0<|oB hs1 fun x4 hx4 hs1=>oB hs1 fun x5 hx5 hs1=>qm rfl<|qm rfl<|qm rfl<|A0 (N7 (f:=cI) rfl rfl hx4) rfl<|A0 (P7 rfl rfl) rfl<|C2 (rs:=[.b x5]) rfl rfl (A5 rfl B9) (Impl.call g1_h hx5 _)<|es (ra6 rfl rfl rfl rfl rfl rfl)<|wi hs1 rfl (fun hc6 hs1=>?_) fun hc6 hs1=>?_
   ·refine s0<|qm rfl<|qm rfl<|es (ra1 rfl)<|C4 ?_
    obtain rfl:=os hs1
    exact lx rfl (And.intro rfl (retq trivial (A9 rfl B7) (A4 rfl B6) (A2 A8 B1))) (Sub.refl _)
   ·refine C6<|r0<|A0 (I1 rfl rfl) rfl<|qm rfl<|en (ra4 rfl rfl rfl rfl) ?_
    cases hs1
    exact lnT () rfl (su4 rfl rfl rfl rfl)
  ·refine J0 ?_
   obtain rfl:=os hs1
   exact lx rfl px (.nil _)
 ·rcases o7 with vo7_0 | vo7_1
  ·rintro e s' H' - ⟨rfl,hret⟩
   cases h
   exact hret
  ·rintro e s' H' - ⟨rfl,rfl,rfl⟩
   refine s0<|qm rfl<|es (ra1 rfl)<|C4 ?_
   obtain rfl:=os h
   exact retq trivial (A9 rfl B7) (A4 rfl B6) (A2 A8 B1)
def P8 (a0:(List Int)) (g1:(Int→Option Bool)):Option Bool :=
 (S8 a0 g1).bind fun x1 =>
 some (decide (x1 ≥ 0))
theorem A0z {c:Sc} {H:A3} {a0:(List Int)} {g1:Int→Option Bool} {g1_i:Nat} {g1_f g1_c:List AV} (g1_h:Impl tab H g1_i g1_f g1_c g1 (fun y=>[.i y]) (fun y=>[.b y])) {r:Bool} (h:P8 a0 g1 = some r) :
  E8 tab c H (.fn (.func 104) [] []) [(.seq 1 (List.map cI a0)),.fn (.func g1_i) g1_f g1_c] [.b r]:= by
 unfold P8 at h
 refine cE rfl rfl<|s0<|qm rfl<|es (ra2 rfl rfl)<|s0<|oB h fun x1 hx1 h=>qm rfl<|qm rfl<|C2 (rs:=[.i x1]) rfl rfl (A5 rfl (A5 rfl B9)) ((A1z (Impl.app g1_h _) hx1).frz)<|A0 (B0l rfl rfl) rfl<|qm rfl<|es (ra1 rfl)<|C4 ?_
 obtain rfl:=os h
 exact retq trivial (A9 rfl B7) (A4 rfl B6) (A2 A8 B1)
def I2 (a0:Int) (a1:Int) (a2:(List Int)):Option Bool :=
 (P8 a2 (fun (y:Int)=>A06 y a0 a1)).bind fun x1 =>
 some x1
theorem F3 {c:Sc} {H:A3} {a0:Int} {a1:Int} {a2:(List Int)} {r:Bool} (h:I2 a0 a1 a2 = some r) :
  E8 tab c H (.fn (.func 62) [] []) [.i a0,.i a1,(.seq 1 (List.map cI a2))] [.b r]:= by
 unfold I2 at h
 refine cE rfl rfl<|sg 0 rfl<|A0 (G2 (cs:=cI a0) rfl rfl rfl) rfl<|A0 (G2 (cs:=cI a1) rfl rfl rfl) rfl<|qm rfl<|es (ra3 rfl rfl rfl)<|s0<|oB h fun x1 hx1 h=>qm rfl<|A0 (A1m rfl rfl) rfl<|C2 (rs:=[.b x1]) rfl rfl (A5 rfl (A5 rfl B9)) ((A0z (show Impl _ _ 105 [] [(.ptr (H.length + 0) 0),(.ptr (H.length + 1) 0)] (fun (y:Int)=>A06 y a0 a1) (fun (y:Int)=>[.i y]) (fun (y:Bool)=>[.b y]) from ⟨⟨B1,(by rw [List.length_append]; exact (A2 (G4 rfl) (A2 (G4 rfl) B1)))⟩,fun H' hle hag c y r hr=>(Z9 (A83 (hag _ _ (D5 rfl)) (hag _ _ (D5 rfl)) hr)).frz⟩) hx1).frz)<|qm rfl<|es (ra1 rfl)<|C4 ?_
 obtain rfl:=os h
 exact retq trivial (A9 rfl B7) (A4 rfl B6) (A2 A8 B1)
def A32 (a0:Span) (a1:Int) (a2:Int):Option Int :=
 (I2 a1 a2 [a0.Lo,a0.Hi]).bind fun x1 =>
 if x1 = true then
  some 7
 else
  if (decide (a0.Lo > a0.Hi)) = true then
  some 2
  else
  some 0
theorem A4k {c:Sc} {H:A3} {a0:Span} {a1:Int} {a2:Int} {r:Int} (h:A32 a0 a1 a2 = some r) :
  E8 tab c H (.fn (.func 61) [] []) [(.agg (E0 a0)),.i a1,.i a2] [.i r]:= by
 unfold A32 at h
 refine cE rfl rfl<|sg 0 rfl<|A0 (G2 (cs:=E0 a0) rfl rfl rfl) rfl<|qm rfl<|es (ra3 rfl rfl rfl)<|C3<|D0<|s0<|oB h fun x1 hx1 h=>qm rfl<|qm rfl<|A0 (C9 rfl) rfl<|A0 (D1 rfl rfl rfl) rfl<|A0 (C9 rfl) rfl<|A0 (D1 rfl rfl rfl) rfl<|A0 (K3 (rows:=List.map cI [a0.Lo,a0.Hi]) rfl rfl (E6 (fun _=>rfl) _)) rfl<|C2 (rs:=[.b x1]) rfl rfl (A5 rfl (A5 rfl (A5 rfl B9))) ((F3 hx1).frz)<|qm rfl<|es (ra2 rfl rfl)<|wi h rfl (fun hc2 h=>?_) fun hc2 h=>?_
 ·refine s0<|qm rfl<|es (ra1 rfl)<|C4 ?_
  obtain rfl:=os h
  exact retq trivial (A9 rfl B7) (A4 rfl B6) (A2 A8 B1)
 ·refine s0<|A0 (C9 rfl) rfl<|A0 (D1 rfl rfl rfl) rfl<|A0 (C9 rfl) rfl<|A0 (D1 rfl rfl rfl) rfl<|A0 (A09 rfl rfl) rfl<|qm rfl<|es (ra1 rfl)<|wi h rfl (fun hc3 h=>?_) fun hc3 h=>?_
  ·refine s0<|qm rfl<|es (ra1 rfl)<|C4 ?_
   obtain rfl:=os h
   exact retq trivial (A9 rfl B7) (A4 rfl B6) (A2 A8 B1)
  ·refine C6<|s0<|qm rfl<|es (ra1 rfl)<|C4 ?_
   obtain rfl:=os h
   exact retq trivial (A9 rfl B7) (A4 rfl B6) (A2 A8 B1)
def A0p (a0:Int) (a1:Span):Option Int :=
 (A32 a1 0 60).bind fun x1 =>
 some x1
theorem A73 {c:Sc} {H:A3} {a0:Int} {a1:Span} {r:Int} (h:A0p a0 a1 = some r) :
  E8 tab c H (.fn (.func 71) [] []) [.i a0,(.agg (E0 a1))] [.i r]:= by
 unfold A0p at h
 refine cE rfl rfl<|sg 0 rfl<|A0 (G2 (cs:=E0 a1) rfl rfl rfl) rfl<|qm rfl<|es (ra1 rfl)<|s0<|oB h fun x1 hx1 h=>A0 (C5 rfl rfl rfl) rfl<|C2 (rs:=[.i x1]) rfl rfl (A5 (D9 rfl) (A5 rfl (A5 rfl B9))) ((A4k hx1).frz)<|qm rfl<|es (ra1 rfl)<|C4 ?_
 obtain rfl:=os h
 exact retq trivial (A9 rfl B7) (A4 rfl B6) (A2 A8 B1)
def A0r (a0:(List Span)) (g2:((Int × Span)→Option Int)) (s2:Int):Option (Int ⊕ ((Int × Int) ⊕ Unit)) :=
 if (decide (s2 < (List.length a0:Int))) = true then
  (idx a0 s2).bind fun x5 =>
  (g2 (s2,x5)).bind fun x6 =>
  if (x6 != 0) = true then
  some (.inr (.inl (s2,x6)))
  else
  some (.inl (w64 (s2 + 1)))
 else
  some (.inr (.inr ()))
def X8 (a0:(List Span)) (a1:Int) (g2:((Int × Span)→Option Int)):Option (Int × Int) :=
 if (decide ((List.length a0:Int) > a1)) = true then
  some (0,3)
 else
  (loop (A0r a0 g2) 0).bind fun (o8:((Int × Int) ⊕ Unit)) =>
  match o8 with
  | (.inl vo8_0) =>
  some vo8_0
  | (.inr vo8_1) =>
  some (0,0)
theorem A4i {c:Sc} {H:A3} {a0:(List Span)} {a1:Int} {g2:(Int × Span)→Option Int} {g2_i:Nat} {g2_f g2_c:List AV} (g2_h:Impl tab H g2_i g2_f g2_c g2 (fun y=>[.i y.1,(.agg (E0 y.2))]) (fun y=>[.i y])) {r:(Int × Int)} (h:X8 a0 a1 g2 = some r) :
  E8 tab c H (.fn (.func 70) [] []) [(.seq 2 (List.map E0 a0)),.i a1,.fn (.func g2_i) g2_f g2_c] [.i r.1,.i r.2]:= by
 unfold X8 at h
 refine cE rfl rfl<|s0<|qm rfl<|qm rfl<|es (ra3 rfl rfl rfl)<|C3<|s0<|qm rfl<|A0 (E9 (f:=E0) rfl) rfl<|qm rfl<|A0 (A09 rfl rfl) rfl<|es (ra3 rfl rfl rfl)<|wi h rfl (fun hc1 h=>?_) fun hc1 h=>?_
 ·refine s0<|qm rfl<|qm rfl<|es (ra2 rfl rfl)<|C4 ?_
  obtain rfl:=os h
  exact retq trivial (A9 rfl (A9 rfl B7)) (A4 rfl (A4 rfl B6)) (A2 A8 (A2 A8 B1))
 ·refine C6<|C3<|s0<|qm rfl<|A0 (E9 (f:=E0) rfl) rfl<|qm rfl<|es (ra4 rfl rfl rfl rfl)<|D0<|oB h fun o8 ho8 h=>wl (fun s2=>[(2,(.fn (.func g2_i) g2_f g2_c)),(15,(.seq 2 (List.map E0 a0))),(16,(.i (List.length a0:Int))),(17,.i s2)]) (fun (q3:Unit) s2=>[]) 0 (fun r e s' H'=>(match r with | (.inl v)=>e = .ret∧RetQ H [.tmp 6,.tmp 7] [.i v.1,.i v.2] e s' H' | (.inr v)=>PX 0 [] (H++[]) e s' H':Prop)) () ho8 rfl rfl (fun _ _=>rfl) (fun _=>rfl) rfl (fun s2=>(bdc (B0m g2_h.1) (bdc M4 (bdc A8 (bdc A8 bdn))))) (fun q3 s2 ys2 hs2=>?_) ?_
  ·unfold A0r at hs2
   refine s0<|A0 (L7 rfl rfl) rfl<|es (ra5 rfl rfl rfl rfl rfl)<|C3<|wi hs2 rfl (fun hc4 hs2=>?_) fun hc4 hs2=>?_
   ·refine C6<|C3<|D0<|sg 0 rfl<|oB hs2 fun x5 hx5 hs2=>qm rfl<|A0 (N7 (f:=E0) rfl rfl hx5) rfl<|A0 (A1d rfl rfl) rfl<|A0 D2 rfl<|qm rfl<|E4 (C1 (ds:=(E0 x5)) rfl rfl rfl rfl (B3 rfl) rfl) rfl<|es (ra6 rfl rfl rfl rfl rfl rfl)<|s0<|oB hs2 fun x6 hx6 hs2=>qm rfl<|qm rfl<|A0 (C5 rfl rfl rfl) rfl<|C2 (rs:=[.i x6]) rfl rfl (A5 rfl (A5 (D9 rfl) B9)) (Impl.call g2_h hx6 _)<|qm rfl<|es (ra6 rfl rfl rfl rfl rfl rfl)<|s0<|qm rfl<|A0 (M7 rfl rfl) rfl<|es (ra7 rfl rfl rfl rfl rfl rfl rfl)<|wi hs2 rfl (fun hc7 hs2=>?_) fun hc7 hs2=>?_
    ·refine s0<|qm rfl<|qm rfl<|qm rfl<|qm rfl<|es (ra2 rfl rfl)<|C4 ?_
     obtain rfl:=os hs2
     exact lx rfl (And.intro rfl (retq trivial (A9 rfl (A9 rfl B7)) (A4 rfl (A4 rfl B6)) (A2 A8 (A2 A8 B1)))) (Sub.refl _)
    ·refine C6<|r0<|A0 (I1 rfl rfl) rfl<|qm rfl<|en (ra4 rfl rfl rfl rfl) ?_
     cases hs2
     exact lnT () rfl (su4 rfl rfl rfl rfl)
   ·refine J0 ?_
    obtain rfl:=os hs2
    exact lx rfl px (.nil _)
  ·rcases o8 with vo8_0 | vo8_1
   ·rintro e s' H' - ⟨rfl,hret⟩
    cases h
    exact hret
   ·rintro e s' H' - ⟨rfl,rfl,rfl⟩
    refine s0<|qm rfl<|qm rfl<|es (ra2 rfl rfl)<|C4 ?_
    obtain rfl:=os h
    exact retq trivial (A9 rfl (A9 rfl B7)) (A4 rfl (A4 rfl B6)) (A2 A8 (A2 A8 B1))
def M6 (a0:(List RoPlace)) (g1:(RoPlace→Option Bool)) (s1:Int):Option (Int ⊕ (Int ⊕ Unit)) :=
 if (decide (s1 < (List.length a0:Int))) = true then
  (idx a0 s1).bind fun x4 =>
  (g1 x4).bind fun x5 =>
  if x5 = true then
  some (.inr (.inl s1))
  else
  some (.inl (w64 (s1 + 1)))
 else
  some (.inr (.inr ()))
def J9 (a0:(List RoPlace)) (g1:(RoPlace→Option Bool)):Option Int :=
 (loop (M6 a0 g1) 0).bind fun (o7:(Int ⊕ Unit)) =>
 match o7 with
 | (.inl vo7_0) =>
  some vo7_0
 | (.inr vo7_1) =>
  some (-1)
theorem T8 {c:Sc} {H:A3} {a0:(List RoPlace)} {g1:RoPlace→Option Bool} {g1_i:Nat} {g1_f g1_c:List AV} (g1_h:Impl tab H g1_i g1_f g1_c g1 (fun y=>[(.agg (B5 y))]) (fun y=>[.b y])) {r:Int} (h:J9 a0 g1 = some r) :
  E8 tab c H (.fn (.func 107) [] []) [(.seq 4 (List.map B5 a0)),.fn (.func g1_i) g1_f g1_c] [.i r]:= by
 unfold J9 at h
 refine cE rfl rfl<|s0<|qm rfl<|es (ra2 rfl rfl)<|C3<|s0<|qm rfl<|A0 (E9 (f:=B5) rfl) rfl<|qm rfl<|es (ra4 rfl rfl rfl rfl)<|D0<|oB h fun o7 ho7 h=>wl (fun s1=>[(0,(.seq 4 (List.map B5 a0))),(1,(.fn (.func g1_i) g1_f g1_c)),(7,(.i (List.length a0:Int))),(8,.i s1)]) (fun (q2:Unit) s1=>[]) 0 (fun r e s' H'=>(match r with | (.inl v)=>e = .ret∧RetQ H [.tmp 4] [.i v] e s' H' | (.inr v)=>PX 0 [] (H++[]) e s' H':Prop)) () ho7 rfl rfl (fun _ _=>rfl) (fun _=>rfl) rfl (fun s1=>(bdc M4 (bdc (B0m g1_h.1) (bdc A8 (bdc A8 bdn))))) (fun q2 s1 ys1 hs1=>?_) ?_
 ·unfold M6 at hs1
  refine s0<|A0 (L7 rfl rfl) rfl<|es (ra5 rfl rfl rfl rfl rfl)<|C3<|wi hs1 rfl (fun hc3 hs1=>?_) fun hc3 hs1=>?_
  ·refine C6<|C3<|D0<|s0<|qm rfl<|qm rfl<|es (ra5 rfl rfl rfl rfl rfl)<|s0<|oB hs1 fun x4 hx4 hs1=>oB hs1 fun x5 hx5 hs1=>qm rfl<|qm rfl<|qm rfl<|A0 (N7 (f:=B5) rfl rfl hx4) rfl<|A0 (A1d rfl rfl) rfl<|C2 (rs:=[.b x5]) rfl rfl (A5 (D9 rfl) B9) (Impl.call g1_h hx5 _)<|es (ra6 rfl rfl rfl rfl rfl rfl)<|wi hs1 rfl (fun hc6 hs1=>?_) fun hc6 hs1=>?_
   ·refine s0<|qm rfl<|qm rfl<|es (ra1 rfl)<|C4 ?_
    obtain rfl:=os hs1
    exact lx rfl (And.intro rfl (retq trivial (A9 rfl B7) (A4 rfl B6) (A2 A8 B1))) (Sub.refl _)
   ·refine C6<|r0<|A0 (I1 rfl rfl) rfl<|qm rfl<|en (ra4 rfl rfl rfl rfl) ?_
    cases hs1
    exact lnT () rfl (su4 rfl rfl rfl rfl)
  ·refine J0 ?_
   obtain rfl:=os hs1
   exact lx rfl px (.nil _)
 ·rcases o7 with vo7_0 | vo7_1
  ·rintro e s' H' - ⟨rfl,hret⟩
   cases h
   exact hret
  ·rintro e s' H' - ⟨rfl,rfl,rfl⟩
   refine s0<|qm rfl<|es (ra1 rfl)<|C4 ?_
   obtain rfl:=os h
   exact retq trivial (A9 rfl B7) (A4 rfl B6) (A2 A8 B1)
def I9 (a0:(List RoPlace)) (g1:(RoPlace→Option Bool)):Option Bool :=
 (J9 a0 g1).bind fun x1 =>
 some (decide (x1 ≥ 0))
theorem S6 {c:Sc} {H:A3} {a0:(List RoPlace)} {g1:RoPlace→Option Bool} {g1_i:Nat} {g1_f g1_c:List AV} (g1_h:Impl tab H g1_i g1_f g1_c g1 (fun y=>[(.agg (B5 y))]) (fun y=>[.b y])) {r:Bool} (h:I9 a0 g1 = some r) :
  E8 tab c H (.fn (.func 68) [] []) [(.seq 4 (List.map B5 a0)),.fn (.func g1_i) g1_f g1_c] [.b r]:= by
 unfold I9 at h
 refine cE rfl rfl<|s0<|qm rfl<|es (ra2 rfl rfl)<|s0<|oB h fun x1 hx1 h=>qm rfl<|qm rfl<|C2 (rs:=[.i x1]) rfl rfl (A5 rfl (A5 rfl B9)) ((T8 (Impl.app g1_h _) hx1).frz)<|A0 (B0l rfl rfl) rfl<|qm rfl<|es (ra1 rfl)<|C4 ?_
 obtain rfl:=os h
 exact retq trivial (A9 rfl B7) (A4 rfl B6) (A2 A8 B1)
def A11 (a0:Int) (a1:RoPlace) (a2:RoHouse):Option Int :=
 (A4f a1.Name).bind fun x1 =>
 if (!x1) = true then
  some 6
 else
  (slc a2.Places 0 a0).bind fun x3 =>
  (I9 x3 (fun (y:RoPlace)=>A0o y a1)).bind fun x4 =>
  if x4 = true then
  some 5
  else
  if ((List.length a1.Warms:Int) != a2.Stoves) = true then
   some 3
  else
   (X8 a1.Warms a2.Stoves (fun (y:(Int × Span))=>A0p y.1 y.2)).bind fun x7 =>
   if (x7.2 != 0) = true then
   some x7.2
   else
   (B18 .i64 1 (List.length a2.Holds:Int)).bind fun x9 =>
   (I2 0 (w64 (x9 - 1)) [a1.Joists]).bind fun x10 =>
   if x10 = true then
    some 4
   else
    some 0
theorem A95 {c:Sc} {H:A3} {a0:Int} {a1:RoPlace} {a2:RoHouse} {b2:Nat} (hb2:hcells H b2 = some (A6 a2)) {r:Int} (h:A11 a0 a1 a2 = some r) :
  E8 tab c H (.fn (.func 66) [] []) [.i a0,(.agg (B5 a1)),.ptr b2 0] [.i r]:= by
 unfold A11 at h
 refine cE rfl rfl<|sg 0 rfl<|A0 (G2 (cs:=B5 a1) rfl rfl rfl) rfl<|qm rfl<|es (ra3 rfl rfl rfl)<|C3<|D0<|s0<|oB h fun x1 hx1 h=>A0 (C9 rfl) rfl<|A0 (D1 rfl rfl rfl) rfl<|C2 (rs:=[.b x1]) rfl rfl (A5 rfl B9) ((A6i hx1).frz)<|A0 (A5t rfl) rfl<|qm rfl<|es (ra4 rfl rfl rfl rfl)<|wi h rfl (fun hc2 h=>?_) fun hc2 h=>?_
 ·refine s0<|qm rfl<|es (ra1 rfl)<|C4 ?_
  obtain rfl:=os h
  exact retq trivial (A9 rfl B7) (A4 rfl B6) (A2 A8 B1)
 ·refine s0<|oB h fun x3 hx3 h=>oB h fun x4 hx4 h=>A0 (C9 rfl) rfl<|A0 (G6 rfl hb2 rfl) rfl<|qm rfl<|A0 (A5e (f:=B5) rfl rfl rfl hx3) rfl<|A0 (A1m rfl rfl) rfl<|C2 (rs:=[.b x4]) rfl rfl (A5 rfl (A5 rfl B9)) ((S6 (show Impl _ _ 69 [] [(.ptr (H.length + 0) 0)] (fun (y:RoPlace)=>A0o y a1) (fun (y:RoPlace)=>[(.agg (B5 y))]) (fun (y:Bool)=>[.b y]) from ⟨⟨B1,(by rw [List.length_append]; exact (A2 (G4 rfl) B1))⟩,fun H' hle hag c y r hr=>(Z9 (A72 (hag _ _ (D5 rfl)) hr)).frz⟩) hx4).frz)<|qm rfl<|es (ra3 rfl rfl rfl)<|wi h rfl (fun hc5 h=>?_) fun hc5 h=>?_
  ·refine s0<|qm rfl<|es (ra1 rfl)<|C4 ?_
   obtain rfl:=os h
   exact retq trivial (A9 rfl B7) (A4 rfl B6) (A2 A8 B1)
  ·refine s0<|A0 (C9 rfl) rfl<|A0 (D1 rfl rfl rfl) rfl<|A0 (E9 (f:=E0) rfl) rfl<|A0 (C9 rfl) rfl<|A0 (G6 rfl hb2 rfl) rfl<|A0 (M7 rfl rfl) rfl<|qm rfl<|es (ra3 rfl rfl rfl)<|wi h rfl (fun hc6 h=>?_) fun hc6 h=>?_
   ·refine s0<|qm rfl<|es (ra1 rfl)<|C4 ?_
    obtain rfl:=os h
    exact retq trivial (A9 rfl B7) (A4 rfl B6) (A2 A8 B1)
   ·refine C6<|C3<|s0<|oB h fun x7 hx7 h=>A0 (C9 rfl) rfl<|A0 (D1 rfl rfl rfl) rfl<|A0 (C9 rfl) rfl<|A0 (G6 rfl hb2 rfl) rfl<|C2 (rs:=[.i x7.1,.i x7.2]) rfl rfl (A5 rfl (A5 rfl (A5 rfl B9))) ((A4i (show Impl _ _ 71 [] [] (fun (y:(Int × Span))=>A0p y.1 y.2) (fun (y:(Int × Span))=>[.i y.1,(.agg (E0 y.2))]) (fun (y:Int)=>[.i y]) from ⟨⟨B1,B1⟩,fun H' hle hag c y r hr=>(A73 hr).frz⟩) hx7).frz)<|qm rfl<|A0 (A7 rfl rfl) rfl<|A0 (A7 rfl rfl) rfl<|qm rfl<|qm rfl<|es (ra3 rfl rfl rfl)<|s0<|qm rfl<|A0 (M7 rfl rfl) rfl<|es (ra4 rfl rfl rfl rfl)<|wi h rfl (fun hc8 h=>?_) fun hc8 h=>?_
    ·refine s0<|qm rfl<|qm rfl<|es (ra1 rfl)<|C4 ?_
     obtain rfl:=os h
     exact retq trivial (A9 rfl B7) (A4 rfl B6) (A2 A8 B1)
    ·refine C6<|C3<|s0<|oB h fun x9 hx9 h=>oB h fun x10 hx10 h=>A0 (C9 rfl) rfl<|A0 (G6 rfl hb2 rfl) rfl<|A0 (E9 (f:=cI) rfl) rfl<|A0 (A70 rfl rfl hx9) rfl<|A0 (Y2 rfl rfl) rfl<|A0 (C9 rfl) rfl<|A0 (D1 rfl rfl rfl) rfl<|A0 (K3 (rows:=List.map cI [a1.Joists]) rfl rfl (E6 (fun _=>rfl) _)) rfl<|C2 (rs:=[.b x10]) rfl rfl (A5 rfl (A5 rfl (A5 rfl B9))) ((F3 hx10).frz)<|es (ra1 rfl)<|wi h rfl (fun hc11 h=>?_) fun hc11 h=>?_
     ·refine s0<|qm rfl<|es (ra1 rfl)<|C4 ?_
      obtain rfl:=os h
      exact retq trivial (A9 rfl B7) (A4 rfl B6) (A2 A8 B1)
     ·refine C6<|s0<|qm rfl<|es (ra1 rfl)<|C4 ?_
      obtain rfl:=os h
      exact retq trivial (A9 rfl B7) (A4 rfl B6) (A2 A8 B1)
def A0q (a0:RoFigure) (a1:RoFigure):Option Bool :=
 some (eqS a0.Name a1.Name)
theorem A74 {c:Sc} {H:A3} {a0:RoFigure} {a1:RoFigure} {b1:Nat} (hb1:hcells H b1 = some (B2 a1)) {r:Bool} (h:A0q a0 a1 = some r) :
  E8 tab c H (.fn (.func 75) [] []) [(.agg (B2 a0)),.ptr b1 0] [.b r]:= by
 unfold A0q at h
 refine cE rfl rfl<|sg 0 rfl<|A0 (G2 (cs:=B2 a0) rfl rfl rfl) rfl<|qm rfl<|es (ra2 rfl rfl)<|s0<|A0 (C9 rfl) rfl<|A0 (D1 rfl rfl rfl) rfl<|A0 (C9 rfl) rfl<|A0 (G6 rfl hb1 rfl) rfl<|A0 (C22 rfl rfl) rfl<|qm rfl<|es (ra1 rfl)<|C4 ?_
 obtain rfl:=os h
 exact retq trivial (A9 rfl B7) (A4 rfl B6) (A2 A8 B1)
def M1 (a0:(List RoFigure)) (g1:(RoFigure→Option Bool)) (s1:Int):Option (Int ⊕ (Int ⊕ Unit)) :=
 if (decide (s1 < (List.length a0:Int))) = true then
  (idx a0 s1).bind fun x4 =>
  (g1 x4).bind fun x5 =>
  if x5 = true then
  some (.inr (.inl s1))
  else
  some (.inl (w64 (s1 + 1)))
 else
  some (.inr (.inr ()))
def J2 (a0:(List RoFigure)) (g1:(RoFigure→Option Bool)):Option Int :=
 (loop (M1 a0 g1) 0).bind fun (o7:(Int ⊕ Unit)) =>
 match o7 with
 | (.inl vo7_0) =>
  some vo7_0
 | (.inr vo7_1) =>
  some (-1)
theorem T0 {c:Sc} {H:A3} {a0:(List RoFigure)} {g1:RoFigure→Option Bool} {g1_i:Nat} {g1_f g1_c:List AV} (g1_h:Impl tab H g1_i g1_f g1_c g1 (fun y=>[(.agg (B2 y))]) (fun y=>[.b y])) {r:Int} (h:J2 a0 g1 = some r) :
  E8 tab c H (.fn (.func 108) [] []) [(.seq 6 (List.map B2 a0)),.fn (.func g1_i) g1_f g1_c] [.i r]:= by
 unfold J2 at h
 refine cE rfl rfl<|s0<|qm rfl<|es (ra2 rfl rfl)<|C3<|s0<|qm rfl<|A0 (E9 (f:=B2) rfl) rfl<|qm rfl<|es (ra4 rfl rfl rfl rfl)<|D0<|oB h fun o7 ho7 h=>wl (fun s1=>[(0,(.seq 6 (List.map B2 a0))),(1,(.fn (.func g1_i) g1_f g1_c)),(7,(.i (List.length a0:Int))),(8,.i s1)]) (fun (q2:Unit) s1=>[]) 0 (fun r e s' H'=>(match r with | (.inl v)=>e = .ret∧RetQ H [.tmp 4] [.i v] e s' H' | (.inr v)=>PX 0 [] (H++[]) e s' H':Prop)) () ho7 rfl rfl (fun _ _=>rfl) (fun _=>rfl) rfl (fun s1=>(bdc M4 (bdc (B0m g1_h.1) (bdc A8 (bdc A8 bdn))))) (fun q2 s1 ys1 hs1=>?_) ?_
 ·unfold M1 at hs1
  refine s0<|A0 (L7 rfl rfl) rfl<|es (ra5 rfl rfl rfl rfl rfl)<|C3<|wi hs1 rfl (fun hc3 hs1=>?_) fun hc3 hs1=>?_
  ·refine C6<|C3<|D0<|s0<|qm rfl<|qm rfl<|es (ra5 rfl rfl rfl rfl rfl)<|s0<|oB hs1 fun x4 hx4 hs1=>oB hs1 fun x5 hx5 hs1=>qm rfl<|qm rfl<|qm rfl<|A0 (N7 (f:=B2) rfl rfl hx4) rfl<|A0 (A1d rfl rfl) rfl<|C2 (rs:=[.b x5]) rfl rfl (A5 (D9 rfl) B9) (Impl.call g1_h hx5 _)<|es (ra6 rfl rfl rfl rfl rfl rfl)<|wi hs1 rfl (fun hc6 hs1=>?_) fun hc6 hs1=>?_
   ·refine s0<|qm rfl<|qm rfl<|es (ra1 rfl)<|C4 ?_
    obtain rfl:=os hs1
    exact lx rfl (And.intro rfl (retq trivial (A9 rfl B7) (A4 rfl B6) (A2 A8 B1))) (Sub.refl _)
   ·refine C6<|r0<|A0 (I1 rfl rfl) rfl<|qm rfl<|en (ra4 rfl rfl rfl rfl) ?_
    cases hs1
    exact lnT () rfl (su4 rfl rfl rfl rfl)
  ·refine J0 ?_
   obtain rfl:=os hs1
   exact lx rfl px (.nil _)
 ·rcases o7 with vo7_0 | vo7_1
  ·rintro e s' H' - ⟨rfl,hret⟩
   cases h
   exact hret
  ·rintro e s' H' - ⟨rfl,rfl,rfl⟩
   refine s0<|qm rfl<|es (ra1 rfl)<|C4 ?_
   obtain rfl:=os h
   exact retq trivial (A9 rfl B7) (A4 rfl B6) (A2 A8 B1)
def I6 (a0:(List RoFigure)) (g1:(RoFigure→Option Bool)):Option Bool :=
 (J2 a0 g1).bind fun x1 =>
 some (decide (x1 ≥ 0))
theorem R0 {c:Sc} {H:A3} {a0:(List RoFigure)} {g1:RoFigure→Option Bool} {g1_i:Nat} {g1_f g1_c:List AV} (g1_h:Impl tab H g1_i g1_f g1_c g1 (fun y=>[(.agg (B2 y))]) (fun y=>[.b y])) {r:Bool} (h:I6 a0 g1 = some r) :
  E8 tab c H (.fn (.func 74) [] []) [(.seq 6 (List.map B2 a0)),.fn (.func g1_i) g1_f g1_c] [.b r]:= by
 unfold I6 at h
 refine cE rfl rfl<|s0<|qm rfl<|es (ra2 rfl rfl)<|s0<|oB h fun x1 hx1 h=>qm rfl<|qm rfl<|C2 (rs:=[.i x1]) rfl rfl (A5 rfl (A5 rfl B9)) ((T0 (Impl.app g1_h _) hx1).frz)<|A0 (B0l rfl rfl) rfl<|qm rfl<|es (ra1 rfl)<|C4 ?_
 obtain rfl:=os h
 exact retq trivial (A9 rfl B7) (A4 rfl B6) (A2 A8 B1)
def A12 (a0:Int) (a1:RoFigure) (a2:RoHouse):Option Int :=
 (A4f a1.Name).bind fun x1 =>
 if (!x1) = true then
  some 6
 else
  (slc a2.Figures 0 a0).bind fun x3 =>
  (I6 x3 (fun (y:RoFigure)=>A0q y a1)).bind fun x4 =>
  if x4 = true then
  some 5
  else
  (I2 0 9 [a1.Class]).bind fun x6 =>
  (if x6 = true then
   some true
  else
   (I2 1 500 [a1.Weight]).bind fun x8 =>
   some x8).bind fun x9 =>
  (if x9 = true then
   some true
  else
   (I2 0 100 [a1.Worth]).bind fun x11 =>
   some x11).bind fun x12 =>
  if x12 = true then
   some 7
  else
   (A32 (Span.mk a1.Cracks a1.Slumps) (-100) 100).bind fun x14 =>
   some x14
theorem A96 {c:Sc} {H:A3} {a0:Int} {a1:RoFigure} {a2:RoHouse} {b2:Nat} (hb2:hcells H b2 = some (A6 a2)) {r:Int} (h:A12 a0 a1 a2 = some r) :
  E8 tab c H (.fn (.func 73) [] []) [.i a0,(.agg (B2 a1)),.ptr b2 0] [.i r]:= by
 unfold A12 at h
 refine cE rfl rfl<|sg 0 rfl<|A0 (G2 (cs:=B2 a1) rfl rfl rfl) rfl<|qm rfl<|es (ra3 rfl rfl rfl)<|C3<|D0<|s0<|oB h fun x1 hx1 h=>A0 (C9 rfl) rfl<|A0 (D1 rfl rfl rfl) rfl<|C2 (rs:=[.b x1]) rfl rfl (A5 rfl B9) ((A6i hx1).frz)<|A0 (A5t rfl) rfl<|qm rfl<|es (ra4 rfl rfl rfl rfl)<|wi h rfl (fun hc2 h=>?_) fun hc2 h=>?_
 ·refine s0<|qm rfl<|es (ra1 rfl)<|C4 ?_
  obtain rfl:=os h
  exact retq trivial (A9 rfl B7) (A4 rfl B6) (A2 A8 B1)
 ·refine s0<|oB h fun x3 hx3 h=>oB h fun x4 hx4 h=>A0 (C9 rfl) rfl<|A0 (G6 rfl hb2 rfl) rfl<|qm rfl<|A0 (A5e (f:=B2) rfl rfl rfl hx3) rfl<|A0 (A1m rfl rfl) rfl<|C2 (rs:=[.b x4]) rfl rfl (A5 rfl (A5 rfl B9)) ((R0 (show Impl _ _ 75 [] [(.ptr (H.length + 0) 0)] (fun (y:RoFigure)=>A0q y a1) (fun (y:RoFigure)=>[(.agg (B2 y))]) (fun (y:Bool)=>[.b y]) from ⟨⟨B1,(by rw [List.length_append]; exact (A2 (G4 rfl) B1))⟩,fun H' hle hag c y r hr=>(Z9 (A74 (hag _ _ (D5 rfl)) hr)).frz⟩) hx4).frz)<|qm rfl<|es (ra2 rfl rfl)<|wi h rfl (fun hc5 h=>?_) fun hc5 h=>?_
  ·refine s0<|qm rfl<|es (ra1 rfl)<|C4 ?_
   obtain rfl:=os h
   exact retq trivial (A9 rfl B7) (A4 rfl B6) (A2 A8 B1)
  ·refine s0<|oB h fun x6 hx6 h=>oB h fun x9 hx9 h=>oB h fun x12 hx12 h=>A0 (C9 rfl) rfl<|A0 (D1 rfl rfl rfl) rfl<|A0 (K3 (rows:=List.map cI [a1.Class]) rfl rfl (E6 (fun _=>rfl) _)) rfl<|C2 (rs:=[.b x6]) rfl rfl (A5 rfl (A5 rfl (A5 rfl B9))) ((F3 hx6).frz)<|qm rfl<|gp 5 28 (.b x9) 23 rfl rfl (fun hg7=>?_) (fun hg7=>?_) ?_
   ·obtain rfl:=os (bt hx9 hg7)
    exact nF rfl hg7 rfl<|nF rfl hg7 rfl<|nF rfl hg7 rfl<|T4 (K9 rfl (by rw [hg7]; rfl)) rfl<|A0 (D6 rfl hg7 rfl) rfl<|ge 5 rfl rfl rfl
   ·refine oB (bf hx9 hg7) fun x8 hx8 hx9=>?_
    obtain rfl:=os hx9
    exact gF rfl hg7<|A0 (C9 rfl) rfl<|gF rfl hg7<|A0 (D1 rfl rfl rfl) rfl<|gF rfl hg7<|A0 (K3 (rows:=List.map cI [a1.Weight]) rfl rfl (E6 (fun _=>rfl) _)) rfl<|gF rfl hg7<|C2 (rs:=[.b x8]) rfl rfl (A5 rfl (A5 rfl (A5 rfl B9))) ((F3 hx8).frz)<|A0 (D7 rfl hg7 rfl) rfl<|ge 5 rfl rfl rfl
   refine qm rfl<|gp 5 34 (.b x12) 29 rfl rfl (fun hg10=>?_) (fun hg10=>?_) ?_
   ·obtain rfl:=os (bt hx12 hg10)
    exact nF rfl hg10 rfl<|nF rfl hg10 rfl<|nF rfl hg10 rfl<|T4 (K9 rfl (by rw [hg10]; rfl)) rfl<|A0 (D6 rfl hg10 rfl) rfl<|ge 5 rfl rfl rfl
   ·refine oB (bf hx12 hg10) fun x11 hx11 hx12=>?_
    obtain rfl:=os hx12
    exact gF rfl hg10<|A0 (C9 rfl) rfl<|gF rfl hg10<|A0 (D1 rfl rfl rfl) rfl<|gF rfl hg10<|A0 (K3 (rows:=List.map cI [a1.Worth]) rfl rfl (E6 (fun _=>rfl) _)) rfl<|gF rfl hg10<|C2 (rs:=[.b x11]) rfl rfl (A5 rfl (A5 rfl (A5 rfl B9))) ((F3 hx11).frz)<|A0 (D7 rfl hg10 rfl) rfl<|ge 5 rfl rfl rfl
   refine qm rfl<|es (ra2 rfl rfl)<|wi h rfl (fun hc13 h=>?_) fun hc13 h=>?_
   ·refine s0<|qm rfl<|es (ra1 rfl)<|C4 ?_
    obtain rfl:=os h
    exact retq trivial (A9 rfl B7) (A4 rfl B6) (A2 A8 B1)
   ·refine C6<|s0<|oB h fun x14 hx14 h=>A0 (C9 rfl) rfl<|A0 (D1 rfl rfl rfl) rfl<|A0 (C9 rfl) rfl<|A0 (D1 rfl rfl rfl) rfl<|A0 (F2 (cs:=E0 (Span.mk a1.Cracks a1.Slumps)) rfl rfl) rfl<|C2 (rs:=[.i x14]) rfl rfl (A5 (D9 rfl) (A5 rfl (A5 rfl B9))) ((A4k hx14).frz)<|qm rfl<|es (ra1 rfl)<|C4 ?_
    obtain rfl:=os h
    exact retq trivial (A9 rfl B7) (A4 rfl B6) (A2 A8 B1)
def W4 (a0:(List RoFigure)) (g2:((Int × RoFigure)→Option Int)) (s2:Int):Option (Int ⊕ ((Int × Int) ⊕ Unit)) :=
 if (decide (s2 < (List.length a0:Int))) = true then
  (idx a0 s2).bind fun x5 =>
  (g2 (s2,x5)).bind fun x6 =>
  if (x6 != 0) = true then
  some (.inr (.inl (s2,x6)))
  else
  some (.inl (w64 (s2 + 1)))
 else
  some (.inr (.inr ()))
def T7 (a0:(List RoFigure)) (a1:Int) (g2:((Int × RoFigure)→Option Int)):Option (Int × Int) :=
 if (decide ((List.length a0:Int) > a1)) = true then
  some (0,3)
 else
  (loop (W4 a0 g2) 0).bind fun (o8:((Int × Int) ⊕ Unit)) =>
  match o8 with
  | (.inl vo8_0) =>
  some vo8_0
  | (.inr vo8_1) =>
  some (0,0)
theorem A2j {c:Sc} {H:A3} {a0:(List RoFigure)} {a1:Int} {g2:(Int × RoFigure)→Option Int} {g2_i:Nat} {g2_f g2_c:List AV} (g2_h:Impl tab H g2_i g2_f g2_c g2 (fun y=>[.i y.1,(.agg (B2 y.2))]) (fun y=>[.i y])) {r:(Int × Int)} (h:T7 a0 a1 g2 = some r) :
  E8 tab c H (.fn (.func 72) [] []) [(.seq 6 (List.map B2 a0)),.i a1,.fn (.func g2_i) g2_f g2_c] [.i r.1,.i r.2]:= by
 unfold T7 at h
 refine cE rfl rfl<|s0<|qm rfl<|qm rfl<|es (ra3 rfl rfl rfl)<|C3<|s0<|qm rfl<|A0 (E9 (f:=B2) rfl) rfl<|qm rfl<|A0 (A09 rfl rfl) rfl<|es (ra3 rfl rfl rfl)<|wi h rfl (fun hc1 h=>?_) fun hc1 h=>?_
 ·refine s0<|qm rfl<|qm rfl<|es (ra2 rfl rfl)<|C4 ?_
  obtain rfl:=os h
  exact retq trivial (A9 rfl (A9 rfl B7)) (A4 rfl (A4 rfl B6)) (A2 A8 (A2 A8 B1))
 ·refine C6<|C3<|s0<|qm rfl<|A0 (E9 (f:=B2) rfl) rfl<|qm rfl<|es (ra4 rfl rfl rfl rfl)<|D0<|oB h fun o8 ho8 h=>wl (fun s2=>[(2,(.fn (.func g2_i) g2_f g2_c)),(15,(.seq 6 (List.map B2 a0))),(16,(.i (List.length a0:Int))),(17,.i s2)]) (fun (q3:Unit) s2=>[]) 0 (fun r e s' H'=>(match r with | (.inl v)=>e = .ret∧RetQ H [.tmp 6,.tmp 7] [.i v.1,.i v.2] e s' H' | (.inr v)=>PX 0 [] (H++[]) e s' H':Prop)) () ho8 rfl rfl (fun _ _=>rfl) (fun _=>rfl) rfl (fun s2=>(bdc (B0m g2_h.1) (bdc M4 (bdc A8 (bdc A8 bdn))))) (fun q3 s2 ys2 hs2=>?_) ?_
  ·unfold W4 at hs2
   refine s0<|A0 (L7 rfl rfl) rfl<|es (ra5 rfl rfl rfl rfl rfl)<|C3<|wi hs2 rfl (fun hc4 hs2=>?_) fun hc4 hs2=>?_
   ·refine C6<|C3<|D0<|sg 0 rfl<|oB hs2 fun x5 hx5 hs2=>qm rfl<|A0 (N7 (f:=B2) rfl rfl hx5) rfl<|A0 (A1d rfl rfl) rfl<|A0 D2 rfl<|qm rfl<|E4 (C1 (ds:=(B2 x5)) rfl rfl rfl rfl (B3 rfl) rfl) rfl<|es (ra6 rfl rfl rfl rfl rfl rfl)<|s0<|oB hs2 fun x6 hx6 hs2=>qm rfl<|qm rfl<|A0 (C5 rfl rfl rfl) rfl<|C2 (rs:=[.i x6]) rfl rfl (A5 rfl (A5 (D9 rfl) B9)) (Impl.call g2_h hx6 _)<|qm rfl<|es (ra6 rfl rfl rfl rfl rfl rfl)<|s0<|qm rfl<|A0 (M7 rfl rfl) rfl<|es (ra7 rfl rfl rfl rfl rfl rfl rfl)<|wi hs2 rfl (fun hc7 hs2=>?_) fun hc7 hs2=>?_
    ·refine s0<|qm rfl<|qm rfl<|qm rfl<|qm rfl<|es (ra2 rfl rfl)<|C4 ?_
     obtain rfl:=os hs2
     exact lx rfl (And.intro rfl (retq trivial (A9 rfl (A9 rfl B7)) (A4 rfl (A4 rfl B6)) (A2 A8 (A2 A8 B1)))) (Sub.refl _)
    ·refine C6<|r0<|A0 (I1 rfl rfl) rfl<|qm rfl<|en (ra4 rfl rfl rfl rfl) ?_
     cases hs2
     exact lnT () rfl (su4 rfl rfl rfl rfl)
   ·refine J0 ?_
    obtain rfl:=os hs2
    exact lx rfl px (.nil _)
  ·rcases o8 with vo8_0 | vo8_1
   ·rintro e s' H' - ⟨rfl,hret⟩
    cases h
    exact hret
   ·rintro e s' H' - ⟨rfl,rfl,rfl⟩
    refine s0<|qm rfl<|qm rfl<|es (ra2 rfl rfl)<|C4 ?_
    obtain rfl:=os h
    exact retq trivial (A9 rfl (A9 rfl B7)) (A4 rfl (A4 rfl B6)) (A2 A8 (A2 A8 B1))
def X5 (a0:(List RoPlace)) (g2:((Int × RoPlace)→Option Int)) (s2:Int):Option (Int ⊕ ((Int × Int) ⊕ Unit)) :=
 if (decide (s2 < (List.length a0:Int))) = true then
  (idx a0 s2).bind fun x5 =>
  (g2 (s2,x5)).bind fun x6 =>
  if (x6 != 0) = true then
  some (.inr (.inl (s2,x6)))
  else
  some (.inl (w64 (s2 + 1)))
 else
  some (.inr (.inr ()))
def U6 (a0:(List RoPlace)) (a1:Int) (g2:((Int × RoPlace)→Option Int)):Option (Int × Int) :=
 if (decide ((List.length a0:Int) > a1)) = true then
  some (0,3)
 else
  (loop (X5 a0 g2) 0).bind fun (o8:((Int × Int) ⊕ Unit)) =>
  match o8 with
  | (.inl vo8_0) =>
  some vo8_0
  | (.inr vo8_1) =>
  some (0,0)
theorem A2t {c:Sc} {H:A3} {a0:(List RoPlace)} {a1:Int} {g2:(Int × RoPlace)→Option Int} {g2_i:Nat} {g2_f g2_c:List AV} (g2_h:Impl tab H g2_i g2_f g2_c g2 (fun y=>[.i y.1,(.agg (B5 y.2))]) (fun y=>[.i y])) {r:(Int × Int)} (h:U6 a0 a1 g2 = some r) :
  E8 tab c H (.fn (.func 65) [] []) [(.seq 4 (List.map B5 a0)),.i a1,.fn (.func g2_i) g2_f g2_c] [.i r.1,.i r.2]:= by
 unfold U6 at h
 refine cE rfl rfl<|s0<|qm rfl<|qm rfl<|es (ra3 rfl rfl rfl)<|C3<|s0<|qm rfl<|A0 (E9 (f:=B5) rfl) rfl<|qm rfl<|A0 (A09 rfl rfl) rfl<|es (ra3 rfl rfl rfl)<|wi h rfl (fun hc1 h=>?_) fun hc1 h=>?_
 ·refine s0<|qm rfl<|qm rfl<|es (ra2 rfl rfl)<|C4 ?_
  obtain rfl:=os h
  exact retq trivial (A9 rfl (A9 rfl B7)) (A4 rfl (A4 rfl B6)) (A2 A8 (A2 A8 B1))
 ·refine C6<|C3<|s0<|qm rfl<|A0 (E9 (f:=B5) rfl) rfl<|qm rfl<|es (ra4 rfl rfl rfl rfl)<|D0<|oB h fun o8 ho8 h=>wl (fun s2=>[(2,(.fn (.func g2_i) g2_f g2_c)),(15,(.seq 4 (List.map B5 a0))),(16,(.i (List.length a0:Int))),(17,.i s2)]) (fun (q3:Unit) s2=>[]) 0 (fun r e s' H'=>(match r with | (.inl v)=>e = .ret∧RetQ H [.tmp 6,.tmp 7] [.i v.1,.i v.2] e s' H' | (.inr v)=>PX 0 [] (H++[]) e s' H':Prop)) () ho8 rfl rfl (fun _ _=>rfl) (fun _=>rfl) rfl (fun s2=>(bdc (B0m g2_h.1) (bdc M4 (bdc A8 (bdc A8 bdn))))) (fun q3 s2 ys2 hs2=>?_) ?_
  ·unfold X5 at hs2
   refine s0<|A0 (L7 rfl rfl) rfl<|es (ra5 rfl rfl rfl rfl rfl)<|C3<|wi hs2 rfl (fun hc4 hs2=>?_) fun hc4 hs2=>?_
   ·refine C6<|C3<|D0<|sg 0 rfl<|oB hs2 fun x5 hx5 hs2=>qm rfl<|A0 (N7 (f:=B5) rfl rfl hx5) rfl<|A0 (A1d rfl rfl) rfl<|A0 D2 rfl<|qm rfl<|E4 (C1 (ds:=(B5 x5)) rfl rfl rfl rfl (B3 rfl) rfl) rfl<|es (ra6 rfl rfl rfl rfl rfl rfl)<|s0<|oB hs2 fun x6 hx6 hs2=>qm rfl<|qm rfl<|A0 (C5 rfl rfl rfl) rfl<|C2 (rs:=[.i x6]) rfl rfl (A5 rfl (A5 (D9 rfl) B9)) (Impl.call g2_h hx6 _)<|qm rfl<|es (ra6 rfl rfl rfl rfl rfl rfl)<|s0<|qm rfl<|A0 (M7 rfl rfl) rfl<|es (ra7 rfl rfl rfl rfl rfl rfl rfl)<|wi hs2 rfl (fun hc7 hs2=>?_) fun hc7 hs2=>?_
    ·refine s0<|qm rfl<|qm rfl<|qm rfl<|qm rfl<|es (ra2 rfl rfl)<|C4 ?_
     obtain rfl:=os hs2
     exact lx rfl (And.intro rfl (retq trivial (A9 rfl (A9 rfl B7)) (A4 rfl (A4 rfl B6)) (A2 A8 (A2 A8 B1)))) (Sub.refl _)
    ·refine C6<|r0<|A0 (I1 rfl rfl) rfl<|qm rfl<|en (ra4 rfl rfl rfl rfl) ?_
     cases hs2
     exact lnT () rfl (su4 rfl rfl rfl rfl)
   ·refine J0 ?_
    obtain rfl:=os hs2
    exact lx rfl px (.nil _)
  ·rcases o8 with vo8_0 | vo8_1
   ·rintro e s' H' - ⟨rfl,hret⟩
    cases h
    exact hret
   ·rintro e s' H' - ⟨rfl,rfl,rfl⟩
    refine s0<|qm rfl<|qm rfl<|es (ra2 rfl rfl)<|C4 ?_
    obtain rfl:=os h
    exact retq trivial (A9 rfl (A9 rfl B7)) (A4 rfl (A4 rfl B6)) (A2 A8 (A2 A8 B1))
def A26 (a0:(List Int)) (g2:((Int × Int)→Option Int)) (s2:Int):Option (Int ⊕ ((Int × Int) ⊕ Unit)) :=
 if (decide (s2 < (List.length a0:Int))) = true then
  (idx a0 s2).bind fun x5 =>
  (g2 (s2,x5)).bind fun x6 =>
  if (x6 != 0) = true then
  some (.inr (.inl (s2,x6)))
  else
  some (.inl (w64 (s2 + 1)))
 else
  some (.inr (.inr ()))
def A0s (a0:(List Int)) (a1:Int) (g2:((Int × Int)→Option Int)):Option (Int × Int) :=
 if (decide ((List.length a0:Int) > a1)) = true then
  some (0,3)
 else
  (loop (A26 a0 g2) 0).bind fun (o8:((Int × Int) ⊕ Unit)) =>
  match o8 with
  | (.inl vo8_0) =>
  some vo8_0
  | (.inr vo8_1) =>
  some (0,0)
theorem A22 {c:Sc} {H:A3} {a0:(List Int)} {a1:Int} {g2:(Int × Int)→Option Int} {g2_i:Nat} {g2_f g2_c:List AV} (g2_h:Impl tab H g2_i g2_f g2_c g2 (fun y=>[.i y.1,.i y.2]) (fun y=>[.i y])) {r:(Int × Int)} (h:A0s a0 a1 g2 = some r) :
  E8 tab c H (.fn (.func 63) [] []) [(.seq 1 (List.map cI a0)),.i a1,.fn (.func g2_i) g2_f g2_c] [.i r.1,.i r.2]:= by
 unfold A0s at h
 refine cE rfl rfl<|s0<|qm rfl<|qm rfl<|es (ra3 rfl rfl rfl)<|C3<|s0<|qm rfl<|A0 (E9 (f:=cI) rfl) rfl<|qm rfl<|A0 (A09 rfl rfl) rfl<|es (ra3 rfl rfl rfl)<|wi h rfl (fun hc1 h=>?_) fun hc1 h=>?_
 ·refine s0<|qm rfl<|qm rfl<|es (ra2 rfl rfl)<|C4 ?_
  obtain rfl:=os h
  exact retq trivial (A9 rfl (A9 rfl B7)) (A4 rfl (A4 rfl B6)) (A2 A8 (A2 A8 B1))
 ·refine C6<|C3<|s0<|qm rfl<|A0 (E9 (f:=cI) rfl) rfl<|qm rfl<|es (ra4 rfl rfl rfl rfl)<|D0<|oB h fun o8 ho8 h=>wl (fun s2=>[(2,(.fn (.func g2_i) g2_f g2_c)),(15,(.seq 1 (List.map cI a0))),(16,(.i (List.length a0:Int))),(17,.i s2)]) (fun (q3:Unit) s2=>[]) 0 (fun r e s' H'=>(match r with | (.inl v)=>e = .ret∧RetQ H [.tmp 6,.tmp 7] [.i v.1,.i v.2] e s' H' | (.inr v)=>PX 0 [] (H++[]) e s' H':Prop)) () ho8 rfl rfl (fun _ _=>rfl) (fun _=>rfl) rfl (fun s2=>(bdc (B0m g2_h.1) (bdc M4 (bdc A8 (bdc A8 bdn))))) (fun q3 s2 ys2 hs2=>?_) ?_
  ·unfold A26 at hs2
   refine s0<|A0 (L7 rfl rfl) rfl<|es (ra5 rfl rfl rfl rfl rfl)<|C3<|wi hs2 rfl (fun hc4 hs2=>?_) fun hc4 hs2=>?_
   ·refine C6<|C3<|D0<|s0<|oB hs2 fun x5 hx5 hs2=>qm rfl<|A0 (N7 (f:=cI) rfl rfl hx5) rfl<|A0 (P7 rfl rfl) rfl<|qm rfl<|qm rfl<|es (ra6 rfl rfl rfl rfl rfl rfl)<|s0<|oB hs2 fun x6 hx6 hs2=>qm rfl<|qm rfl<|qm rfl<|C2 (rs:=[.i x6]) rfl rfl (A5 rfl (A5 rfl B9)) (Impl.call g2_h hx6 _)<|qm rfl<|es (ra6 rfl rfl rfl rfl rfl rfl)<|s0<|qm rfl<|A0 (M7 rfl rfl) rfl<|es (ra7 rfl rfl rfl rfl rfl rfl rfl)<|wi hs2 rfl (fun hc7 hs2=>?_) fun hc7 hs2=>?_
    ·refine s0<|qm rfl<|qm rfl<|qm rfl<|qm rfl<|es (ra2 rfl rfl)<|C4 ?_
     obtain rfl:=os hs2
     exact lx rfl (And.intro rfl (retq trivial (A9 rfl (A9 rfl B7)) (A4 rfl (A4 rfl B6)) (A2 A8 (A2 A8 B1)))) (Sub.refl _)
    ·refine C6<|r0<|A0 (I1 rfl rfl) rfl<|qm rfl<|en (ra4 rfl rfl rfl rfl) ?_
     cases hs2
     exact lnT () rfl (su4 rfl rfl rfl rfl)
   ·refine J0 ?_
    obtain rfl:=os hs2
    exact lx rfl px (.nil _)
  ·rcases o8 with vo8_0 | vo8_1
   ·rintro e s' H' - ⟨rfl,hret⟩
    cases h
    exact hret
   ·rintro e s' H' - ⟨rfl,rfl,rfl⟩
    refine s0<|qm rfl<|qm rfl<|es (ra2 rfl rfl)<|C4 ?_
    obtain rfl:=os h
    exact retq trivial (A9 rfl (A9 rfl B7)) (A4 rfl (A4 rfl B6)) (A2 A8 (A2 A8 B1))
def V4 (a0:Int) (a1:Int) (a2:Int) (a3:Int):Option Int :=
 (I2 a2 a3 [a1]).bind fun x1 =>
 if x1 = true then
  some 7
 else
  some 0
theorem A3v {c:Sc} {H:A3} {a0:Int} {a1:Int} {a2:Int} {b2:Nat} (hb2:hcells H b2 = some (cI a2)) {a3:Int} {b3:Nat} (hb3:hcells H b3 = some (cI a3)) {r:Int} (h:V4 a0 a1 a2 a3 = some r) :
  E8 tab c H (.fn (.func 106) [] []) [.i a0,.i a1,.ptr b2 0,.ptr b3 0] [.i r]:= by
 unfold V4 at h
 refine cE rfl rfl<|s0<|qm rfl<|es (ra3 rfl rfl rfl)<|C3<|s0<|oB h fun x1 hx1 h=>A0 (G6 rfl hb2 rfl) rfl<|A0 (G6 rfl hb3 rfl) rfl<|qm rfl<|A0 (K3 (rows:=List.map cI [a1]) rfl rfl (E6 (fun _=>rfl) _)) rfl<|C2 (rs:=[.b x1]) rfl rfl (A5 rfl (A5 rfl (A5 rfl B9))) ((F3 hx1).frz)<|es (ra1 rfl)<|wi h rfl (fun hc2 h=>?_) fun hc2 h=>?_
 ·refine s0<|qm rfl<|es (ra1 rfl)<|C4 ?_
  obtain rfl:=os h
  exact retq trivial (A9 rfl B7) (A4 rfl B6) (A2 A8 B1)
 ·refine C6<|s0<|qm rfl<|es (ra1 rfl)<|C4 ?_
  obtain rfl:=os h
  exact retq trivial (A9 rfl B7) (A4 rfl B6) (A2 A8 B1)
def Q5 (a0:RoHouse):Option (Int × Int × Int) :=
 (A32 a0.Weather (-100) 100).bind fun x1 =>
 if (x1 != 0) = true then
  some (1,0,x1)
 else
  (I2 0 3 [a0.Stoves]).bind fun x3 =>
  if x3 = true then
  some (2,0,7)
  else
  (A0s a0.Holds 4 (fun (y:(Int × Int))=>V4 y.1 y.2 0 2000)).bind fun x5 =>
  if (x5.2 != 0) = true then
   some (3,x5.1,x5.2)
  else
   (U6 a0.Places 5 (fun (y:(Int × RoPlace))=>A11 y.1 y.2 a0)).bind fun x7 =>
   if (x7.2 != 0) = true then
   some (4,x7.1,x7.2)
   else
   (T7 a0.Figures 5 (fun (y:(Int × RoFigure))=>A12 y.1 y.2 a0)).bind fun x9 =>
   if (x9.2 != 0) = true then
    some (5,x9.1,x9.2)
   else
    (A0s a0.Bill 3 (fun (y:(Int × Int))=>V4 y.1 y.2 0 9)).bind fun x11 =>
    if (x11.2 != 0) = true then
    some (6,x11.1,x11.2)
    else
    some (0,0,0)
theorem O2 {c:Sc} {H:A3} {a0:RoHouse} {r:(Int × Int × Int)} (h:Q5 a0 = some r) :
  E8 tab c H (.fn (.func 17) [] []) [(.agg (A6 a0))] [.i r.1,.i r.2.1,.i r.2.2]:= by
 unfold Q5 at h
 refine cE rfl rfl<|sg 0 rfl<|A0 (G2 (cs:=A6 a0) rfl rfl rfl) rfl<|qm rfl<|qm rfl<|qm rfl<|es (ra1 rfl)<|C3<|s0<|oB h fun x1 hx1 h=>A0 (C9 rfl) rfl<|A0 (E2 (ds:=E0 a0.Weather) rfl rfl rfl rfl) rfl<|C2 (rs:=[.i x1]) rfl rfl (A5 (D9 rfl) (A5 rfl (A5 rfl B9))) ((A4k hx1).frz)<|qm rfl<|es (ra2 rfl rfl)<|s0<|qm rfl<|A0 (M7 rfl rfl) rfl<|es (ra3 rfl rfl rfl)<|wi h rfl (fun hc2 h=>?_) fun hc2 h=>?_
 ·refine s0<|qm rfl<|qm rfl<|qm rfl<|qm rfl<|es (ra3 rfl rfl rfl)<|C4 ?_
  obtain rfl:=os h
  exact retq trivial (A9 rfl (A9 rfl (A9 rfl B7))) (A4 rfl (A4 rfl (A4 rfl B6))) (A2 A8 (A2 A8 (A2 A8 B1)))
 ·refine C6<|C3<|s0<|oB h fun x3 hx3 h=>A0 (C9 rfl) rfl<|A0 (D1 rfl rfl rfl) rfl<|A0 (K3 (rows:=List.map cI [a0.Stoves]) rfl rfl (E6 (fun _=>rfl) _)) rfl<|C2 (rs:=[.b x3]) rfl rfl (A5 rfl (A5 rfl (A5 rfl B9))) ((F3 hx3).frz)<|es (ra2 rfl rfl)<|wi h rfl (fun hc4 h=>?_) fun hc4 h=>?_
  ·refine s0<|qm rfl<|qm rfl<|qm rfl<|es (ra3 rfl rfl rfl)<|C4 ?_
   obtain rfl:=os h
   exact retq trivial (A9 rfl (A9 rfl (A9 rfl B7))) (A4 rfl (A4 rfl (A4 rfl B6))) (A2 A8 (A2 A8 (A2 A8 B1)))
  ·refine C6<|C3<|s0<|B1i (as2:=[.i 0,.i 2000]) (H1:=(H++[.dead])) [0] (A1q [] rfl (A36 rfl A2d O5) rfl rfl) (seen0 rfl) rfl rfl (A5 rfl (A5 rfl B9)) rfl rfl rfl (O7 rfl)<|sg 1 rfl<|A0 (G2 (cs:=cI 0) rfl rfl rfl) rfl<|A0 (G2 (cs:=cI 2000) rfl rfl rfl) rfl<|qm rfl<|es (ra2 rfl rfl)<|s0<|A0 (A1m rfl rfl) rfl<|qm rfl<|es (ra1 rfl)<|C4<|InlH.mk (l2:=[(.cells (A6 a0)),(.cells (cI 0)),(.cells (cI 2000))]) trivial ⟨_,_,_,[(.fn (.func 106) [] [(.ptr (H.length + 1) 0),(.ptr (H.length + 2) 0)])],_,(A9 rfl B7),(A4 rfl B6),(P6 (K1 (B0n (K1 (P4 rfl)))) (C0 rfl G3)),rfl,rfl,?_⟩
   refine oB h fun x5 hx5 h=>A0 (C9 rfl) rfl<|Z2 [] (A1q [] rfl O5 rfl rfl) (A8i (b:=H.length + 0) rfl (A34 (A0g _ rfl) A5q)) (D1 rfl rfl rfl) rfl<|C2 (rs:=[.i x5.1,.i x5.2]) rfl rfl (A5 rfl (A5 rfl (A5 rfl B9))) ((A22 (show Impl _ _ 106 [] [(.ptr (H.length + 1) 0),(.ptr (H.length + 2) 0)] (fun (y:(Int × Int))=>V4 y.1 y.2 0 2000) (fun (y:(Int × Int))=>[.i y.1,.i y.2]) (fun (y:Int)=>[.i y]) from ⟨⟨B1,(by rw [List.length_append]; exact (A2 (G4 rfl) (A2 (G4 rfl) B1)))⟩,fun H' hle hag c y r hr=>(Z9 (A3v (hag _ _ (D5 rfl)) (hag _ _ (D5 rfl)) hr)).frz⟩) hx5).frz)<|qm rfl<|A0 (A7 rfl rfl) rfl<|A0 (A7 rfl rfl) rfl<|qm rfl<|qm rfl<|es (ra3 rfl rfl rfl)<|s0<|qm rfl<|A0 (M7 rfl rfl) rfl<|es (ra4 rfl rfl rfl rfl)<|wi h rfl (fun hc6 h=>?_) fun hc6 h=>?_
   ·refine s0<|qm rfl<|qm rfl<|qm rfl<|qm rfl<|qm rfl<|es (ra3 rfl rfl rfl)<|C4 ?_
    obtain rfl:=os h
    exact retq trivial (A9 rfl (A9 rfl (A9 rfl B7))) (A4 rfl (A4 rfl (A4 rfl B6))) (A2 A8 (A2 A8 (A2 A8 B1)))
   ·refine C6<|s0<|oB h fun x7 hx7 h=>A0 (C9 rfl) rfl<|A0 (D1 rfl rfl rfl) rfl<|A0 (A1m rfl rfl) rfl<|C2 (rs:=[.i x7.1,.i x7.2]) rfl rfl (A5 rfl (A5 rfl (A5 rfl B9))) ((A2t (show Impl _ _ 66 [] [(.ptr (H.length + 0) 0)] (fun (y:(Int × RoPlace))=>A11 y.1 y.2 a0) (fun (y:(Int × RoPlace))=>[.i y.1,(.agg (B5 y.2))]) (fun (y:Int)=>[.i y]) from ⟨⟨B1,(by rw [List.length_append]; exact (A2 (G4 rfl) B1))⟩,fun H' hle hag c y r hr=>(Z9 (A95 (hag _ _ (D5 rfl)) hr)).frz⟩) hx7).frz)<|qm rfl<|A0 (A7 rfl rfl) rfl<|A0 (A7 rfl rfl) rfl<|qm rfl<|qm rfl<|es (ra3 rfl rfl rfl)<|C3<|s0<|qm rfl<|A0 (M7 rfl rfl) rfl<|es (ra4 rfl rfl rfl rfl)<|wi h rfl (fun hc8 h=>?_) fun hc8 h=>?_
    ·refine s0<|qm rfl<|qm rfl<|qm rfl<|qm rfl<|qm rfl<|es (ra3 rfl rfl rfl)<|C4 ?_
     obtain rfl:=os h
     exact retq trivial (A9 rfl (A9 rfl (A9 rfl B7))) (A4 rfl (A4 rfl (A4 rfl B6))) (A2 A8 (A2 A8 (A2 A8 B1)))
    ·refine C6<|s0<|oB h fun x9 hx9 h=>A0 (C9 rfl) rfl<|A0 (D1 rfl rfl rfl) rfl<|A0 (A1m rfl rfl) rfl<|C2 (rs:=[.i x9.1,.i x9.2]) rfl rfl (A5 rfl (A5 rfl (A5 rfl B9))) ((A2j (show Impl _ _ 73 [] [(.ptr (H.length + 0) 0)] (fun (y:(Int × RoFigure))=>A12 y.1 y.2 a0) (fun (y:(Int × RoFigure))=>[.i y.1,(.agg (B2 y.2))]) (fun (y:Int)=>[.i y]) from ⟨⟨B1,(by rw [List.length_append]; exact (A2 (G4 rfl) B1))⟩,fun H' hle hag c y r hr=>(Z9 (A96 (hag _ _ (D5 rfl)) hr)).frz⟩) hx9).frz)<|qm rfl<|A0 (A7 rfl rfl) rfl<|A0 (A7 rfl rfl) rfl<|qm rfl<|qm rfl<|es (ra3 rfl rfl rfl)<|C3<|s0<|qm rfl<|A0 (M7 rfl rfl) rfl<|es (ra4 rfl rfl rfl rfl)<|wi h rfl (fun hc10 h=>?_) fun hc10 h=>?_
     ·refine s0<|qm rfl<|qm rfl<|qm rfl<|qm rfl<|qm rfl<|es (ra3 rfl rfl rfl)<|C4 ?_
      obtain rfl:=os h
      exact retq trivial (A9 rfl (A9 rfl (A9 rfl B7))) (A4 rfl (A4 rfl (A4 rfl B6))) (A2 A8 (A2 A8 (A2 A8 B1)))
     ·refine C6<|C3<|s0<|B1i (as2:=[.i 0,.i 9]) (H1:=(H++[.dead,(.cells (cI 0)),(.cells (cI 2000))])) [0] (A1q [] rfl (A36 rfl A2d O5) rfl rfl) (seen0 rfl) rfl rfl (A5 rfl (A5 rfl B9)) rfl rfl rfl (O7 rfl)<|sg 3 rfl<|A0 (G2 (cs:=cI 0) rfl rfl rfl) rfl<|A0 (G2 (cs:=cI 9) rfl rfl rfl) rfl<|qm rfl<|es (ra2 rfl rfl)<|s0<|A0 (A1m rfl rfl) rfl<|qm rfl<|es (ra1 rfl)<|C4<|InlH.mk (l2:=[(.cells (A6 a0)),(.cells (cI 0)),(.cells (cI 2000)),(.cells (cI 0)),(.cells (cI 9))]) trivial ⟨_,_,_,[(.fn (.func 106) [] [(.ptr (H.length + 3) 0),(.ptr (H.length + 4) 0)])],_,(A9 rfl B7),(A4 rfl B6),(P6 (K1 (B0n (K1 (P4 rfl)))) (C0 rfl G3)),rfl,rfl,?_⟩
      refine oB h fun x11 hx11 h=>A0 (C9 rfl) rfl<|Z2 [] (A1q [] rfl O5 rfl rfl) (A8i (b:=H.length + 0) rfl (A34 (A0g _ rfl) A5q)) (D1 rfl rfl rfl) rfl<|C2 (rs:=[.i x11.1,.i x11.2]) rfl rfl (A5 rfl (A5 rfl (A5 rfl B9))) ((A22 (show Impl _ _ 106 [] [(.ptr (H.length + 3) 0),(.ptr (H.length + 4) 0)] (fun (y:(Int × Int))=>V4 y.1 y.2 0 9) (fun (y:(Int × Int))=>[.i y.1,.i y.2]) (fun (y:Int)=>[.i y]) from ⟨⟨B1,(by rw [List.length_append]; exact (A2 (G4 rfl) (A2 (G4 rfl) B1)))⟩,fun H' hle hag c y r hr=>(Z9 (A3v (hag _ _ (D5 rfl)) (hag _ _ (D5 rfl)) hr)).frz⟩) hx11).frz)<|qm rfl<|A0 (A7 rfl rfl) rfl<|A0 (A7 rfl rfl) rfl<|qm rfl<|qm rfl<|es (ra2 rfl rfl)<|s0<|qm rfl<|A0 (M7 rfl rfl) rfl<|es (ra3 rfl rfl rfl)<|wi h rfl (fun hc12 h=>?_) fun hc12 h=>?_
      ·refine s0<|qm rfl<|qm rfl<|qm rfl<|qm rfl<|qm rfl<|es (ra3 rfl rfl rfl)<|C4 ?_
       obtain rfl:=os h
       exact retq trivial (A9 rfl (A9 rfl (A9 rfl B7))) (A4 rfl (A4 rfl (A4 rfl B6))) (A2 A8 (A2 A8 (A2 A8 B1)))
      ·refine C6<|s0<|qm rfl<|qm rfl<|qm rfl<|es (ra3 rfl rfl rfl)<|C4 ?_
       obtain rfl:=os h
       exact retq trivial (A9 rfl (A9 rfl (A9 rfl B7))) (A4 rfl (A4 rfl (A4 rfl B6))) (A2 A8 (A2 A8 (A2 A8 B1)))
def A1x (a0:room_house) (a1:(Ar5 Int)) (s1:(Int × Int)):Option ((Int × Int) ⊕ Int) :=
 if (decide (s1.2 < 5)) = true then
  (idx (Ar5.l a1) s1.2).bind fun x4 =>
  if (decide (x4 > 0)) = true then
  (idx a0.RoHouse.Figures s1.2).bind fun x6 =>
  some (.inl ((w64 (s1.1 + x6.Worth)),(w64 (s1.2 + 1))))
  else
  some (.inl (s1.1,(w64 (s1.2 + 1))))
 else
  some (.inr s1.1)
def X3 (a0:room_house) (a1:(Ar5 Int)):Option Int :=
 (loop (A1x a0 a1) (0,0)).bind fun (o7:Int) =>
 some o7
theorem A1t {c:Sc} {H:A3} {a0:room_house} {b0:Nat} (hb0:hcells H b0 = some [.i a0.RoHouse.Weather.Lo,.i a0.RoHouse.Weather.Hi,.i a0.RoHouse.Stoves,(.seq 1 (List.map cI a0.RoHouse.Holds)),(.seq 4 (List.map B5 a0.RoHouse.Places)),(.seq 6 (List.map B2 a0.RoHouse.Figures)),(.seq 1 (List.map cI a0.RoHouse.Bill)),(.xseq 2 [[.b false,(.fn (.func 112) [] [])],[.b true,(.fn (.func 113) [] [])]])]) {a1:(Ar5 Int)} {r:Int} (h:X3 a0 a1 = some r) :
  E8 tab c H (.fn (.func 91) [] []) [.ptr b0 0,(.agg ((J8 cI) a1))] [.i r]:= by
 unfold X3 at h
 refine cE rfl rfl<|sg 0 rfl<|A0 (G2 (cs:=(J8 cI) a1) rfl rfl rfl) rfl<|qm rfl<|es (ra3 rfl rfl rfl)<|C3<|s0<|A0 (C5 rfl rfl rfl) rfl<|qm rfl<|es (ra4 rfl rfl rfl rfl)<|D0<|oB h fun o7 ho7 h=>wl (fun s1=>[(0,.ptr b0 0),(4,.i s1.1),(7,(.agg ((J8 cI) a1))),(8,.i s1.2)]) (fun (q2:Unit) s1=>[(.cells ((J8 cI) a1))]) 1 (fun r e s' H'=>PX 0 [(4,.i r)] (H++[(.cells ((J8 cI) a1))]) e s' H') () ho7 rfl rfl (fun _ _=>rfl) (fun _=>rfl) rfl (fun s1=>(bdc (A37 hb0) (bdc A8 (bdc (F9 rfl) (bdc A8 bdn))))) (fun q2 s1 ys1 hs1=>?_) ?_
 ·unfold A1x at hs1
  refine s0<|A0 (L7 rfl rfl) rfl<|es (ra5 rfl rfl rfl rfl rfl)<|C3<|wi hs1 rfl (fun hc3 hs1=>?_) fun hc3 hs1=>?_
  ·refine C6<|C3<|D0<|s0<|oB hs1 fun x4 hx4 hs1=>qm rfl<|A0 (A1c (f:=cI) (g:=fun n=>(.i n)) (e:=Ar5.l a1) (fun _=>rfl) rfl rfl rfl rfl hx4) rfl<|qm rfl<|qm rfl<|es (ra6 rfl rfl rfl rfl rfl rfl)<|s0<|qm rfl<|A0 (A09 rfl rfl) rfl<|es (ra6 rfl rfl rfl rfl rfl rfl)<|wi hs1 rfl (fun hc5 hs1=>?_) fun hc5 hs1=>?_
   ·refine r0<|oB hs1 fun x6 hx6 hs1=>qm rfl<|qm rfl<|A0 (N0 rfl rfl) rfl<|A0 (C9 rfl) rfl<|A0 (C9 rfl) rfl<|A0 (G6 (x:=(.seq 6 (List.map B2 a0.RoHouse.Figures))) rfl hb0 rfl) rfl<|qm rfl<|A0 (N7 (f:=B2) rfl rfl hx6) rfl<|A0 (B3k (ds:=(List.drop 5 (B2 x6))) rfl rfl) rfl<|A0 (P7 rfl rfl) rfl<|A0 (I1 rfl rfl) rfl<|qm rfl<|en (ra4 rfl rfl rfl rfl)<|r0<|A0 (I1 rfl rfl) rfl<|qm rfl<|en (ra4 rfl rfl rfl rfl) ?_
    cases hs1
    exact lnT () rfl (su4 rfl rfl rfl rfl)
   ·refine C6<|r0<|A0 (I1 rfl rfl) rfl<|qm rfl<|en (ra4 rfl rfl rfl rfl) ?_
    cases hs1
    exact lnT () rfl (su4 rfl rfl rfl rfl)
  ·refine J0 ?_
   obtain rfl:=os hs1
   exact lx rfl px (su1 rfl)
 ·rintro e s' H' - ⟨rfl,rfl,rfl⟩
  refine s0<|qm rfl<|qm rfl<|es (ra1 rfl)<|C4 ?_
  obtain rfl:=os h
  exact retq trivial (A9 rfl B7) (A4 rfl B6) (A2 A8 B1)
theorem M8 (x:Span):freeL (E0 x) = true:= by simp [E0,freeL,AV.free,G5,freeR,cI,cB,cS]
theorem G8 (x:RoPlace):freeL (B5 x) = true:= by simp [B5,freeL,AV.free,G5,freeR,cI,cB,cS,M8]
theorem F7 (x:RoFigure):freeL (B2 x) = true:= by simp [B2,freeL,AV.free,G5,freeR,cI,cB,cS,M8,G8]
theorem H8 (x:RoHouse):freeL (A6 x) = true:= by simp [A6,freeL,AV.free,G5,freeR,cI,cB,cS,M8,G8,F7]
theorem K7 (x:RoPlan):freeL (B8 x) = true:= by simp [B8,freeL,AV.free,G5,freeR,cI,cB,cS,M8,G8,F7,H8]
theorem G9 (x:room_plan):freeL (A1 x) = true:= by simp [A1,freeL,AV.free,G5,freeR,cI,cB,cS,M8,G8,F7,H8,K7]
theorem V0 (x:law05_Easier):freeL (A2b x) = true:= by simp [A2b,freeL,AV.free,G5,freeR,cI,cB,cS,M8,G8,F7,H8,K7,G9]
theorem Y8 {N:Nat} (x:Span):clL N (E0 x) = true:=clL_free _ (M8 x)
theorem P0 {N:Nat} (x:RoPlace):clL N (B5 x) = true:=clL_free _ (G8 x)
theorem N1 {N:Nat} (x:RoFigure):clL N (B2 x) = true:=clL_free _ (F7 x)
theorem O9 {N:Nat} (x:RoHouse):clL N (A6 x) = true:=clL_free _ (H8 x)
theorem R1 {N:Nat} (x:RoPlan):clL N (B8 x) = true:=clL_free _ (K7 x)
theorem L9 {N:Nat} (x:room_plan):clL N (A1 x) = true:=clL_free _ (G9 x)
theorem Y9 {N:Nat} (x:law05_Easier):clL N (A2b x) = true:=clL_free _ (V0 x)
theorem fr7:c7.free = true:= by kernel_rfl
theorem fr17:c17.free = true:= by kernel_rfl
theorem fr19:c19.free = true:= by kernel_rfl
theorem fr21:c21.free = true:= by kernel_rfl
theorem fr23:c23.free = true:= by kernel_rfl
theorem fr24:c24.free = true:= by kernel_rfl
theorem fr26:c26.free = true:= by kernel_rfl
theorem fr27:c27.free = true:= by kernel_rfl
theorem fr29:c29.free = true:= by kernel_rfl
theorem fr31:c31.free = true:= by kernel_rfl
theorem fr33:c33.free = true:= by kernel_rfl
theorem fr34:c34.free = true:= by kernel_rfl
theorem fr36:c36.free = true:= by kernel_rfl
theorem fr38:c38.free = true:= by kernel_rfl
theorem fr40:c40.free = true:= by kernel_rfl
theorem fr41:c41.free = true:= by kernel_rfl
theorem fr42:c42.free = true:= by kernel_rfl
theorem fr61:c61.free = true:= by kernel_rfl
theorem fr62:c62.free = true:= by kernel_rfl
theorem fr63:c63.free = true:= by kernel_rfl
theorem fr64:c64.free = true:= by kernel_rfl
theorem fr65:c65.free = true:= by kernel_rfl
theorem fr66:c66.free = true:= by kernel_rfl
theorem fr67:c67.free = true:= by kernel_rfl
theorem fr68:c68.free = true:= by kernel_rfl
theorem fr69:c69.free = true:= by kernel_rfl
theorem fr70:c70.free = true:= by kernel_rfl
theorem fr71:c71.free = true:= by kernel_rfl
theorem fr72:c72.free = true:= by kernel_rfl
theorem fr73:c73.free = true:= by kernel_rfl
theorem fr74:c74.free = true:= by kernel_rfl
theorem fr75:c75.free = true:= by kernel_rfl
theorem fr81:c81.free = true:= by kernel_rfl
theorem fr82:c82.free = true:= by kernel_rfl
theorem fr83:c83.free = true:= by kernel_rfl
theorem fr86:c86.free = true:= by kernel_rfl
theorem fr87:c87.free = true:= by kernel_rfl
theorem fr88:c88.free = true:= by kernel_rfl
theorem fr89:c89.free = true:= by kernel_rfl
theorem fr90:c90.free = true:= by kernel_rfl
theorem fr91:c91.free = true:= by kernel_rfl
theorem fr93:c93.free = true:= by kernel_rfl
theorem fr95:c95.free = true:= by kernel_rfl
theorem fr96:c96.free = true:= by kernel_rfl
theorem fr97:c97.free = true:= by kernel_rfl
theorem fr100:c100.free = true:= by kernel_rfl
theorem fr102:c102.free = true:= by kernel_rfl
theorem fr104:c104.free = true:= by kernel_rfl
theorem fr105:c105.free = true:= by kernel_rfl
theorem fr106:c106.free = true:= by kernel_rfl
theorem fr107:c107.free = true:= by kernel_rfl
theorem fr108:c108.free = true:= by kernel_rfl
theorem fr112:c112.free = true:= by kernel_rfl
theorem fr113:c113.free = true:= by kernel_rfl
theorem fr114:c114.free = true:= by kernel_rfl
theorem fr115:c115.free = true:= by kernel_rfl
theorem fr116:c116.free = true:= by kernel_rfl
theorem fr117:c117.free = true:= by kernel_rfl
theorem fr118:c118.free = true:= by kernel_rfl
theorem fr119:c119.free = true:= by kernel_rfl
theorem fr121:c121.free = true:= by kernel_rfl
theorem fr122:c122.free = true:= by kernel_rfl
theorem fr123:c123.free = true:= by kernel_rfl
theorem fr124:c124.free = true:= by kernel_rfl
theorem fr125:c125.free = true:= by kernel_rfl
theorem fr126:c126.free = true:= by kernel_rfl
theorem fr127:c127.free = true:= by kernel_rfl
theorem A50:A5v tab:= by
 intro i af h
 unfold tab at h
 split at h
 ·cases h; exact fr7
 ·cases h; exact fr17
 ·cases h; exact fr19
 ·cases h; exact fr21
 ·cases h; exact fr23
 ·cases h; exact fr24
 ·cases h; exact fr26
 ·cases h; exact fr27
 ·cases h; exact fr29
 ·cases h; exact fr31
 ·cases h; exact fr33
 ·cases h; exact fr34
 ·cases h; exact fr36
 ·cases h; exact fr38
 ·cases h; exact fr40
 ·cases h; exact fr41
 ·cases h; exact fr42
 ·cases h; exact fr61
 ·cases h; exact fr62
 ·cases h; exact fr63
 ·cases h; exact fr64
 ·cases h; exact fr65
 ·cases h; exact fr66
 ·cases h; exact fr67
 ·cases h; exact fr68
 ·cases h; exact fr69
 ·cases h; exact fr70
 ·cases h; exact fr71
 ·cases h; exact fr72
 ·cases h; exact fr73
 ·cases h; exact fr74
 ·cases h; exact fr75
 ·cases h; exact fr81
 ·cases h; exact fr82
 ·cases h; exact fr83
 ·cases h; exact fr86
 ·cases h; exact fr87
 ·cases h; exact fr88
 ·cases h; exact fr89
 ·cases h; exact fr90
 ·cases h; exact fr91
 ·cases h; exact fr93
 ·cases h; exact fr95
 ·cases h; exact fr96
 ·cases h; exact fr97
 ·cases h; exact fr100
 ·cases h; exact fr102
 ·cases h; exact fr104
 ·cases h; exact fr105
 ·cases h; exact fr106
 ·cases h; exact fr107
 ·cases h; exact fr108
 ·cases h; exact fr112
 ·cases h; exact fr113
 ·cases h; exact fr114
 ·cases h; exact fr115
 ·cases h; exact fr116
 ·cases h; exact fr117
 ·cases h; exact fr118
 ·cases h; exact fr119
 ·cases h; exact fr121
 ·cases h; exact fr122
 ·cases h; exact fr123
 ·cases h; exact fr124
 ·cases h; exact fr125
 ·cases h; exact fr126
 ·cases h; exact fr127
 ·cases h
def A1v (a0:room_house) (s1:(Int × (Ar4 Int))) (x4:Int) (s6:(Int × (Ar4 Int))):Option ((Int × (Ar4 Int)) ⊕ (Ar4 Int)) :=
 if (decide (s6.1 < (List.length a0.RoHouse.Holds:Int))) = true then
  (idx a0.RoHouse.Places (w64 (x4 - 1))).bind fun x9 =>
  (A9c .i64 x9.Joists s6.1).bind fun x10 =>
  if ((A92 x10 1) == 1) = true then
  (idx (Ar4.l s6.2) s6.1).bind fun x12 =>
  (idx a0.RoHouse.Figures s1.1).bind fun x13 =>
  (idx (Ar4.l s6.2) s6.1).bind fun x14 =>
  some (.inl ((w64 (s6.1 + 1)),(Ar4.set s6.2 s6.1 (w64 (x12 + x13.Weight)))))
  else
  some (.inl ((w64 (s6.1 + 1)),s6.2))
 else
  some (.inr s6.2)
def A1w (a0:room_house) (a1:(Ar5 Int)) (s1:(Int × (Ar4 Int))):Option ((Int × (Ar4 Int)) ⊕ (Ar4 Int)) :=
 if (decide (s1.1 < 5)) = true then
  (idx (Ar5.l a1) s1.1).bind fun x4 =>
  if (x4 == 0) = true then
  some (.inl ((w64 (s1.1 + 1)),s1.2))
  else
  (loop (A1v a0 s1 x4) (0,s1.2)).bind fun (o15:(Ar4 Int)) =>
  some (.inl ((w64 (s1.1 + 1)),o15))
 else
  some (.inr s1.2)
def X2 (a0:room_house) (a1:(Ar5 Int)):Option (Ar4 Int) :=
 (loop (A1w a0 a1) (0,(Ar4.mk 0 0 0 0))).bind fun (o16:(Ar4 Int)) =>
 some o16
theorem A1s {c:Sc} {H:A3} {a0:room_house} {b0:Nat} (hb0:hcells H b0 = some [.i a0.RoHouse.Weather.Lo,.i a0.RoHouse.Weather.Hi,.i a0.RoHouse.Stoves,(.seq 1 (List.map cI a0.RoHouse.Holds)),(.seq 4 (List.map B5 a0.RoHouse.Places)),(.seq 6 (List.map B2 a0.RoHouse.Figures)),(.seq 1 (List.map cI a0.RoHouse.Bill)),(.xseq 2 [[.b false,(.fn (.func 112) [] [])],[.b true,(.fn (.func 113) [] [])]])]) {a1:(Ar5 Int)} {r:(Ar4 Int)} (h:X2 a0 a1 = some r) :
  E8 tab c H (.fn (.func 88) [] []) [.ptr b0 0,(.agg ((J8 cI) a1))] [(.agg ((A0f cI) r))]:= by
 unfold X2 at h
 refine cE rfl rfl<|sg 0 rfl<|A0 (G2 (cs:=(J8 cI) a1) rfl rfl rfl) rfl<|A0 D2 rfl<|es (ra3 rfl rfl rfl)<|C3<|s0<|A0 (C5 rfl rfl rfl) rfl<|qm rfl<|es (ra4 rfl rfl rfl rfl)<|D0<|oB h fun o16 ho16 h=>wl (fun s1=>[(0,.ptr b0 0),(4,(.ptr (H.length + 1) 0)),(8,(.agg ((J8 cI) a1))),(9,.i s1.1)]) (fun (q2:Unit) s1=>[(.cells ((J8 cI) a1)),(.cells ((A0f cI) s1.2))]) 2 (fun r e s' H'=>PX 0 [(4,(.ptr (H.length + 1) 0))] (H++[(.cells ((J8 cI) a1)),(.cells ((A0f cI) r))]) e s' H') () ho16 rfl rfl (fun _ _=>rfl) (fun _=>rfl) rfl (fun s1=>(bdc (A37 hb0) (bdc (G4 rfl) (bdc (F9 rfl) (bdc A8 bdn))))) (fun q2 s1 ys1 hs1=>?_) ?_
 ·unfold A1w at hs1
  refine s0<|A0 (L7 rfl rfl) rfl<|es (ra5 rfl rfl rfl rfl rfl)<|C3<|wi hs1 rfl (fun hc3 hs1=>?_) fun hc3 hs1=>?_
  ·refine C6<|C3<|D0<|s0<|oB hs1 fun x4 hx4 hs1=>qm rfl<|A0 (A1c (f:=cI) (g:=fun n=>(.i n)) (e:=Ar5.l a1) (fun _=>rfl) rfl rfl rfl rfl hx4) rfl<|qm rfl<|qm rfl<|es (ra6 rfl rfl rfl rfl rfl rfl)<|C3<|s0<|qm rfl<|A0 (J6 rfl rfl) rfl<|es (ra7 rfl rfl rfl rfl rfl rfl rfl)<|wi hs1 rfl (fun hc5 hs1=>?_) fun hc5 hs1=>?_
   ·refine J0<|r0<|A0 (I1 rfl rfl) rfl<|qm rfl<|en (ra4 rfl rfl rfl rfl) ?_
    cases hs1
    exact lnT () rfl (su4 rfl rfl rfl rfl)
   ·refine C6<|s0<|qm rfl<|A0 (N0 rfl rfl) rfl<|A0 (C9 rfl) rfl<|A0 (C9 rfl) rfl<|A0 (G6 (x:=(.seq 1 (List.map cI a0.RoHouse.Holds))) rfl hb0 rfl) rfl<|A0 (E9 (f:=cI) rfl) rfl<|qm rfl<|es (ra8 rfl rfl rfl rfl rfl rfl rfl rfl)<|D0<|oB hs1 fun o15 ho15 hs1=>wl (fun s6=>[(0,.ptr b0 0),(4,(.ptr (H.length + 1) 0)),(5,.i s1.1),(6,.i x4),(8,(.agg ((J8 cI) a1))),(9,.i s1.1),(20,(.i (List.length a0.RoHouse.Holds:Int))),(21,.i s6.1)]) (fun (q7:Unit) s6=>[(.cells ((J8 cI) a1)),(.cells ((A0f cI) s6.2))]) 2 (fun r e s' H'=>PX 2 [(0,.ptr b0 0),(4,(.ptr (H.length + 1) 0)),(8,(.agg ((J8 cI) a1))),(9,.i s1.1)] (H++[(.cells ((J8 cI) a1)),(.cells ((A0f cI) r))]) e s' H') () ho15 rfl rfl (fun _ _=>rfl) (fun _=>rfl) rfl (fun s6=>(bdc (A37 hb0) (bdc (G4 rfl) (bdc A8 (bdc A8 (bdc (F9 rfl) (bdc A8 (bdc A8 (bdc A8 bdn))))))))) (fun q7 s6 ys6 hs6=>?_) ?_
    ·unfold A1v at hs6
     refine s0<|A0 (L7 rfl rfl) rfl<|es (ra9 rfl rfl rfl rfl rfl rfl rfl rfl rfl)<|C3<|wi hs6 rfl (fun hc8 hs6=>?_) fun hc8 hs6=>?_
     ·refine C6<|C3<|D0<|s0<|qm rfl<|qm rfl<|es (ra9 rfl rfl rfl rfl rfl rfl rfl rfl rfl)<|s0<|oB hs6 fun x9 hx9 hs6=>oB hs6 fun x10 hx10 hs6=>qm rfl<|A0 (N0 rfl rfl) rfl<|A0 (C9 rfl) rfl<|A0 (C9 rfl) rfl<|A0 (G6 (x:=(.seq 4 (List.map B5 a0.RoHouse.Places))) rfl hb0 rfl) rfl<|qm rfl<|A0 (Y2 rfl rfl) rfl<|A0 (N7 (f:=B5) rfl rfl hx9) rfl<|A0 (B3k (ds:=(List.drop 3 (B5 x9))) rfl rfl) rfl<|A0 (P7 rfl rfl) rfl<|qm rfl<|A0 (A5d rfl rfl hx10) rfl<|A0 (F4 (v:=(.i (A92 x10 1))) rfl rfl rfl) rfl<|A0 (J6 rfl rfl) rfl<|es (ra10 rfl rfl rfl rfl rfl rfl rfl rfl rfl rfl)<|wi hs6 rfl (fun hc11 hs6=>?_) fun hc11 hs6=>?_
      ·refine r0<|oB hs6 fun x12 hx12 hs6=>oB hs6 fun x13 hx13 hs6=>oB hs6 fun x14 hx14 hs6=>qm rfl<|A0 (A3e (e:=Ar4.l s6.2) rfl rfl rfl hx12) rfl<|A0 (B1h (f:=cI) (g:=fun n=>(.i n)) (e:=Ar4.l s6.2) (fun _=>rfl) rfl (D5 rfl) rfl hx12) rfl<|qm rfl<|A0 (N0 rfl rfl) rfl<|A0 (C9 rfl) rfl<|A0 (C9 rfl) rfl<|A0 (G6 (x:=(.seq 6 (List.map B2 a0.RoHouse.Figures))) rfl hb0 rfl) rfl<|qm rfl<|A0 (N7 (f:=B2) rfl rfl hx13) rfl<|A0 (B3k (ds:=(List.drop 2 (B2 x13))) rfl rfl) rfl<|A0 (P7 rfl rfl) rfl<|A0 (I1 rfl rfl) rfl<|A0 (A3e (e:=Ar4.l s6.2) rfl rfl rfl hx14) rfl<|E4 (A3t (f:=cI) (e:=Ar4.l s6.2) (e2:=Ar4.l (Ar4.set s6.2 s6.1 (w64 (x12 + x13.Weight)))) (z:=(w64 (x12 + x13.Weight))) (ds:=((A0f cI) (Ar4.set s6.2 s6.1 (w64 (x12 + x13.Weight))))) rfl rfl rfl rfl rfl rfl (fun _=>rfl) hx14 (Ar4.set_l hx14) rfl (B3 rfl)) rfl<|en (ra8 rfl rfl rfl rfl rfl rfl rfl rfl)<|r0<|A0 (I1 rfl rfl) rfl<|qm rfl<|en (ra8 rfl rfl rfl rfl rfl rfl rfl rfl) ?_
       cases hs6
       exact lnT () rfl (su8 rfl rfl rfl rfl rfl rfl rfl rfl)
      ·refine C6<|r0<|A0 (I1 rfl rfl) rfl<|qm rfl<|en (ra8 rfl rfl rfl rfl rfl rfl rfl rfl) ?_
       cases hs6
       exact lnT () rfl (su8 rfl rfl rfl rfl rfl rfl rfl rfl)
     ·refine J0 ?_
      obtain rfl:=os hs6
      exact lx rfl px (su4 rfl rfl rfl rfl)
    ·rintro e s' H' - ⟨rfl,rfl,rfl⟩
     refine r0<|A0 (I1 rfl rfl) rfl<|qm rfl<|en (ra4 rfl rfl rfl rfl) ?_
     cases hs1
     exact lnT () rfl (su4 rfl rfl rfl rfl)
  ·refine J0 ?_
   obtain rfl:=os hs1
   exact lx rfl px (su1 rfl)
 ·rintro e s' H' - ⟨rfl,rfl,rfl⟩
  refine s0<|A0 (C5 rfl rfl rfl) rfl<|E4 (C1 (ds:=((A0f cI) o16)) rfl rfl rfl rfl (B3 rfl) rfl) rfl<|es (ra1 rfl)<|C4 ?_
  obtain rfl:=os h
  exact retq trivial (E5 (E2 (ds:=(A0f cI) o16) rfl rfl rfl rfl) B7) (A4 (H9 rfl) B6) (A2 (F9 rfl) B1)
def A1u (a0:room_house) (x1:(Ar4 Int)) (s2:Int):Option (Int ⊕ (Bool ⊕ Unit)) :=
 if (decide (s2 < 4)) = true then
  (idx (Ar4.l x1) s2).bind fun x5 =>
  (if (decide (s2 < (List.length a0.RoHouse.Holds:Int))) = true then
  (idx a0.RoHouse.Holds s2).bind fun x7 =>
  some (decide (x5 > x7))
  else
  some false).bind fun x8 =>
  if x8 = true then
  some (.inr (.inl false))
  else
  some (.inl (w64 (s2 + 1)))
 else
  some (.inr (.inr ()))
def A01 (a0:room_house) (a1:(Ar5 Int)):Option Bool :=
 (X2 a0 a1).bind fun x1 =>
 (loop (A1u a0 x1) 0).bind fun (o10:(Bool ⊕ Unit)) =>
 match o10 with
 | (.inl vo10_0) =>
  some vo10_0
 | (.inr vo10_1) =>
  some true
theorem A6d {c:Sc} {H:A3} {a0:room_house} {b0:Nat} (hb0:hcells H b0 = some [.i a0.RoHouse.Weather.Lo,.i a0.RoHouse.Weather.Hi,.i a0.RoHouse.Stoves,(.seq 1 (List.map cI a0.RoHouse.Holds)),(.seq 4 (List.map B5 a0.RoHouse.Places)),(.seq 6 (List.map B2 a0.RoHouse.Figures)),(.seq 1 (List.map cI a0.RoHouse.Bill)),(.xseq 2 [[.b false,(.fn (.func 112) [] [])],[.b true,(.fn (.func 113) [] [])]])]) {a1:(Ar5 Int)} {r:Bool} (h:A01 a0 a1 = some r) :
  E8 tab c H (.fn (.func 112) [] []) [.ptr b0 0,(.agg ((J8 cI) a1))] [.b r]:= by
 unfold A01 at h
 refine cE rfl rfl<|sg 0 rfl<|A0 (G2 (cs:=(J8 cI) a1) rfl rfl rfl) rfl<|qm rfl<|es (ra2 rfl rfl)<|C3<|s0<|oB h fun x1 hx1 h=>qm rfl<|A0 (C5 rfl rfl rfl) rfl<|C2 (rs:=[(.agg ((A0f cI) x1))]) rfl rfl (A5 rfl (A5 (D9 rfl) B9)) ((A1s (J7 hb0 _) hx1).frz)<|qm rfl<|es (ra3 rfl rfl rfl)<|D0<|oB h fun o10 ho10 h=>wl (fun s2=>[(0,.ptr b0 0),(9,(.agg ((A0f cI) x1))),(10,.i s2)]) (fun (q3:Unit) s2=>[(.cells ((J8 cI) a1))]) 1 (fun r e s' H'=>(match r with | (.inl v)=>e = .ret∧RetQ H [.tmp 4] [.b v] e s' H' | (.inr v)=>PX 0 [] (H++[(.cells ((J8 cI) a1))]) e s' H':Prop)) () ho10 rfl rfl (fun _ _=>rfl) (fun _=>rfl) rfl (fun s2=>(bdc (A37 hb0) (bdc (F9 rfl) (bdc A8 bdn)))) (fun q3 s2 ys2 hs2=>?_) ?_
 ·unfold A1u at hs2
  refine s0<|A0 (L7 rfl rfl) rfl<|es (ra4 rfl rfl rfl rfl)<|C3<|wi hs2 rfl (fun hc4 hs2=>?_) fun hc4 hs2=>?_
  ·refine C6<|C3<|D0<|s0<|oB hs2 fun x5 hx5 hs2=>qm rfl<|A0 (A1c (f:=cI) (g:=fun n=>(.i n)) (e:=Ar4.l x1) (fun _=>rfl) rfl rfl rfl rfl hx5) rfl<|qm rfl<|qm rfl<|es (ra5 rfl rfl rfl rfl rfl)<|s0<|oB hs2 fun x8 hx8 hs2=>qm rfl<|qm rfl<|A0 (N0 rfl rfl) rfl<|A0 (C9 rfl) rfl<|A0 (C9 rfl) rfl<|A0 (G6 (x:=(.seq 1 (List.map cI a0.RoHouse.Holds))) rfl hb0 rfl) rfl<|A0 (E9 (f:=cI) rfl) rfl<|A0 (L7 rfl rfl) rfl<|qm rfl<|gp 11 33 (.b x8) 22 rfl rfl (fun hg6=>?_) (fun hg6=>?_) ?_
   ·refine oB (bt hx8 hg6) fun x7 hx7 hx8=>?_
    obtain rfl:=os hx8
    exact gT rfl hg6<|qm rfl<|gT rfl hg6<|qm rfl<|gT rfl hg6<|A0 (N0 rfl rfl) rfl<|gT rfl hg6<|A0 (C9 rfl) rfl<|gT rfl hg6<|A0 (C9 rfl) rfl<|gT rfl hg6<|A0 (G6 (x:=(.seq 1 (List.map cI a0.RoHouse.Holds))) rfl hb0 rfl) rfl<|gT rfl hg6<|qm rfl<|gT rfl hg6<|A0 (N7 (f:=cI) rfl rfl hx7) rfl<|gT rfl hg6<|A0 (P7 rfl rfl) rfl<|gT rfl hg6<|A0 (A09 rfl rfl) rfl<|A0 (D6 rfl hg6 rfl) rfl<|ge 11 rfl rfl rfl
   ·obtain rfl:=os (bf hx8 hg6)
    exact nT rfl hg6 rfl<|nT rfl hg6 rfl<|nT rfl hg6 rfl<|nT rfl hg6 rfl<|nT rfl hg6 rfl<|nT rfl hg6 rfl<|nT rfl hg6 rfl<|nT rfl hg6 rfl<|nT rfl hg6 rfl<|nT rfl hg6 rfl<|A0 (D7 rfl hg6 rfl) rfl<|ge 11 rfl rfl rfl
   refine es (ra4 rfl rfl rfl rfl)<|wi hs2 rfl (fun hc9 hs2=>?_) fun hc9 hs2=>?_
   ·refine s0<|qm rfl<|es (ra1 rfl)<|C4 ?_
    obtain rfl:=os hs2
    exact lx rfl (And.intro rfl (retq trivial (A9 rfl B7) (A4 rfl B6) (A2 A8 B1))) (Sub.refl _)
   ·refine C6<|r0<|A0 (I1 rfl rfl) rfl<|qm rfl<|en (ra3 rfl rfl rfl) ?_
    cases hs2
    exact lnT () rfl (su3 rfl rfl rfl)
  ·refine J0 ?_
   obtain rfl:=os hs2
   exact lx rfl px (.nil _)
 ·rcases o10 with vo10_0 | vo10_1
  ·rintro e s' H' - ⟨rfl,hret⟩
   cases h
   exact hret
  ·rintro e s' H' - ⟨rfl,rfl,rfl⟩
   refine s0<|qm rfl<|es (ra1 rfl)<|C4 ?_
   obtain rfl:=os h
   exact retq trivial (A9 rfl B7) (A4 rfl B6) (A2 A8 B1)
def A0u (a0:room_house) (a1:(Ar5 Int)) (s2:(Int × (List (Int × Int)))):Option ((Int × (List (Int × Int))) ⊕ (List (Int × Int))) :=
 if (decide (s2.1 < 5)) = true then
  (idx (Ar5.l a1) s2.1).bind fun x5 =>
  (if (decide (x5 > 0)) = true then
  (idx a0.RoHouse.Places (w64 (x5 - 1))).bind fun x7 =>
  some x7.Dear
  else
  some false).bind fun x8 =>
  if x8 = true then
  (idx a0.RoHouse.Figures s2.1).bind fun x10 =>
  some (.inl ((w64 (s2.1 + 1)),(kset s2.2 x10.Class (w64 ((Option.getD (kget s2.2 x10.Class) 0) + 1)))))
  else
  some (.inl ((w64 (s2.1 + 1)),s2.2))
 else
  some (.inr s2.2)
def A0v (a0:room_house) (s12:(Int × (List (Int × Int)))):Option ((Int × (List (Int × Int))) ⊕ (Bool ⊕ (List (Int × Int)))) :=
 if (decide (s12.1 < (List.length a0.RoHouse.Bill:Int))) = true then
  (idx a0.RoHouse.Bill s12.1).bind fun x15 =>
  if (decide ((Option.getD (kget (kset s12.2 x15 (w64 ((Option.getD (kget s12.2 x15) 0) - 1))) x15) 0) < 0)) = true then
  some (.inr (.inl false))
  else
  some (.inl ((w64 (s12.1 + 1)),(kset s12.2 x15 (w64 ((Option.getD (kget s12.2 x15) 0) - 1)))))
 else
  some (.inr (.inr s12.2))
def X9 (a0:room_house) (a1:(Ar5 Int)):Option Bool :=
 if ((a1.x0 == (Ar5.mk 0 0 0 0 0).x0) && ((a1.x1 == (Ar5.mk 0 0 0 0 0).x1) && ((a1.x2 == (Ar5.mk 0 0 0 0 0).x2) && ((a1.x3 == (Ar5.mk 0 0 0 0 0).x3) && ((a1.x4 == (Ar5.mk 0 0 0 0 0).x4) && true))))) = true then
  some ((List.length a0.RoHouse.Bill:Int) == 0)
 else
  (loop (A0u a0 a1) (0,([]:(List (Int × Int))))).bind fun (o11:(List (Int × Int))) =>
  (loop (A0v a0) (0,o11)).bind fun (o17:(Bool ⊕ (List (Int × Int)))) =>
  match o17 with
  | (.inl vo17_0) =>
  some vo17_0
  | (.inr vo17_1) =>
  some true
theorem A4j {c:Sc} {H:A3} {a0:room_house} {b0:Nat} (hb0:hcells H b0 = some [.i a0.RoHouse.Weather.Lo,.i a0.RoHouse.Weather.Hi,.i a0.RoHouse.Stoves,(.seq 1 (List.map cI a0.RoHouse.Holds)),(.seq 4 (List.map B5 a0.RoHouse.Places)),(.seq 6 (List.map B2 a0.RoHouse.Figures)),(.seq 1 (List.map cI a0.RoHouse.Bill)),(.xseq 2 [[.b false,(.fn (.func 112) [] [])],[.b true,(.fn (.func 113) [] [])]])]) {a1:(Ar5 Int)} {r:Bool} (h:X9 a0 a1 = some r) :
  E8 tab c H (.fn (.func 113) [] []) [.ptr b0 0,(.agg ((J8 cI) a1))] [.b r]:= by
 unfold X9 at h
 refine cE rfl rfl<|sg 0 rfl<|A0 (G2 (cs:=(J8 cI) a1) rfl rfl rfl) rfl<|qm rfl<|es (ra2 rfl rfl)<|C3<|s0<|A0 (C5 rfl rfl rfl) rfl<|A0 (F2 (cs:=(J8 cI) (Ar5.mk 0 0 0 0 0)) rfl rfl) rfl<|A0 (B4m (a:=(J8 cI) a1) (b:=(J8 cI) (Ar5.mk 0 0 0 0 0)) rfl rfl rfl rfl (Z0 (Z0 (Z0 (Z0 (Z0 B0b)))))) rfl<|es (ra3 rfl rfl rfl)<|wi h rfl (fun hc1 h=>?_) fun hc1 h=>?_
 ·refine s0<|qm rfl<|A0 (N0 rfl rfl) rfl<|A0 (C9 rfl) rfl<|A0 (C9 rfl) rfl<|A0 (G6 (x:=(.seq 1 (List.map cI a0.RoHouse.Bill))) rfl hb0 rfl) rfl<|A0 (E9 (f:=cI) rfl) rfl<|A0 (J6 rfl rfl) rfl<|qm rfl<|es (ra1 rfl)<|C4 ?_
  obtain rfl:=os h
  exact retq trivial (A9 rfl B7) (A4 rfl B6) (A2 A8 B1)
 ·refine C6<|sg 1 rfl<|A0 C2e rfl<|qm rfl<|es (ra3 rfl rfl rfl)<|C3<|s0<|A0 (C5 rfl rfl rfl) rfl<|qm rfl<|es (ra4 rfl rfl rfl rfl)<|D0<|oB h fun o11 ho11 h=>wl (fun s2=>[(0,.ptr b0 0),(5,(.mp (H.length + 1))),(21,(.agg ((J8 cI) a1))),(22,.i s2.1)]) (fun (q3:Unit) s2=>[(.cells ((J8 cI) a1)),(.map (List.map (kE (fun x=>(.i x)) (fun x=>(.i x))) s2.2))]) 2 (fun r e s' H'=>PX 0 [(0,.ptr b0 0),(5,(.mp (H.length + 1)))] (H++[(.cells ((J8 cI) a1)),(.map (List.map (kE (fun x=>(.i x)) (fun x=>(.i x))) r))]) e s' H') () ho11 rfl rfl (fun _ _=>rfl) (fun _=>rfl) rfl (fun s2=>(bdc (A37 hb0) (bdc (C23 rfl) (bdc (F9 rfl) (bdc A8 bdn))))) (fun q3 s2 ys2 hs2=>?_) ?_
  ·unfold A0u at hs2
   refine s0<|A0 (L7 rfl rfl) rfl<|es (ra5 rfl rfl rfl rfl rfl)<|C3<|wi hs2 rfl (fun hc4 hs2=>?_) fun hc4 hs2=>?_
   ·refine C6<|C3<|D0<|s0<|oB hs2 fun x5 hx5 hs2=>qm rfl<|A0 (A1c (f:=cI) (g:=fun n=>(.i n)) (e:=Ar5.l a1) (fun _=>rfl) rfl rfl rfl rfl hx5) rfl<|qm rfl<|qm rfl<|es (ra6 rfl rfl rfl rfl rfl rfl)<|s0<|oB hs2 fun x8 hx8 hs2=>qm rfl<|A0 (A09 rfl rfl) rfl<|qm rfl<|gp 11 39 (.b x8) 28 rfl rfl (fun hg6=>?_) (fun hg6=>?_) ?_
    ·refine oB (bt hx8 hg6) fun x7 hx7 hx8=>?_
     obtain rfl:=os hx8
     exact gT rfl hg6<|qm rfl<|gT rfl hg6<|A0 (N0 rfl rfl) rfl<|gT rfl hg6<|A0 (C9 rfl) rfl<|gT rfl hg6<|A0 (C9 rfl) rfl<|gT rfl hg6<|A0 (G6 (x:=(.seq 4 (List.map B5 a0.RoHouse.Places))) rfl hb0 rfl) rfl<|gT rfl hg6<|qm rfl<|gT rfl hg6<|A0 (Y2 rfl rfl) rfl<|gT rfl hg6<|A0 (N7 (f:=B5) rfl rfl hx7) rfl<|gT rfl hg6<|A0 (B3k (ds:=(List.drop 1 (B5 x7))) rfl rfl) rfl<|gT rfl hg6<|A0 (P7 rfl rfl) rfl<|A0 (D6 rfl hg6 rfl) rfl<|ge 11 rfl rfl rfl
    ·obtain rfl:=os (bf hx8 hg6)
     exact nT rfl hg6 rfl<|nT rfl hg6 rfl<|nT rfl hg6 rfl<|nT rfl hg6 rfl<|nT rfl hg6 rfl<|nT rfl hg6 rfl<|nT rfl hg6 rfl<|nT rfl hg6 rfl<|nT rfl hg6 rfl<|nT rfl hg6 rfl<|A0 (D7 rfl hg6 rfl) rfl<|ge 11 rfl rfl rfl
    refine es (ra6 rfl rfl rfl rfl rfl rfl)<|wi hs2 rfl (fun hc9 hs2=>?_) fun hc9 hs2=>?_
    ·refine r0<|oB hs2 fun x10 hx10 hs2=>qm rfl<|qm rfl<|A0 (N0 rfl rfl) rfl<|A0 (C9 rfl) rfl<|A0 (C9 rfl) rfl<|A0 (G6 (x:=(.seq 6 (List.map B2 a0.RoHouse.Figures))) rfl hb0 rfl) rfl<|qm rfl<|A0 (N7 (f:=B2) rfl rfl hx10) rfl<|A0 (B3k (ds:=(List.drop 1 (B2 x10))) rfl rfl) rfl<|A0 (P7 rfl rfl) rfl<|A0 (B68 (av:=(fun x=>(.i x))) (gv:=(fun x=>(.i x))) (k:=x10.Class) (z:=0) A7y rfl (B03 rfl) rfl rfl) rfl<|A0 (I1 rfl rfl) rfl<|E4 (B8i (av:=(fun x=>(.i x))) (gv:=(fun x=>(.i x))) (k:=x10.Class) (v:=(w64 ((Option.getD (kget s2.2 x10.Class) 0) + 1))) A7y rfl rfl rfl rfl rfl) rfl<|en (ra4 rfl rfl rfl rfl)<|r0<|A0 (I1 rfl rfl) rfl<|qm rfl<|en (ra4 rfl rfl rfl rfl) ?_
     cases hs2
     exact lnT () rfl (su4 rfl rfl rfl rfl)
    ·refine C6<|r0<|A0 (I1 rfl rfl) rfl<|qm rfl<|en (ra4 rfl rfl rfl rfl) ?_
     cases hs2
     exact lnT () rfl (su4 rfl rfl rfl rfl)
   ·refine J0 ?_
    obtain rfl:=os hs2
    exact lx rfl px (su2 rfl rfl)
  ·rintro e s' H' - ⟨rfl,rfl,rfl⟩
   refine C3<|s0<|qm rfl<|A0 (N0 rfl rfl) rfl<|A0 (C9 rfl) rfl<|A0 (C9 rfl) rfl<|A0 (G6 (x:=(.seq 1 (List.map cI a0.RoHouse.Bill))) rfl hb0 rfl) rfl<|A0 (E9 (f:=cI) rfl) rfl<|qm rfl<|es (ra4 rfl rfl rfl rfl)<|D0<|oB h fun o17 ho17 h=>wl (fun s12=>[(5,(.mp (H.length + 1))),(57,(.seq 1 (List.map cI a0.RoHouse.Bill))),(58,(.i (List.length a0.RoHouse.Bill:Int))),(59,.i s12.1)]) (fun (q13:Unit) s12=>[(.cells ((J8 cI) a1)),(.map (List.map (kE (fun x=>(.i x)) (fun x=>(.i x))) s12.2))]) 2 (fun r e s' H'=>(match r with | (.inl v)=>e = .ret∧RetQ H [.tmp 4] [.b v] e s' H' | (.inr v)=>PX 2 [] (H++[(.cells ((J8 cI) a1)),(.map (List.map (kE (fun x=>(.i x)) (fun x=>(.i x))) v))]) e s' H':Prop)) () ho17 rfl rfl (fun _ _=>rfl) (fun _=>rfl) rfl (fun s12=>(bdc (C23 rfl) (bdc M4 (bdc A8 (bdc A8 bdn))))) (fun q13 s12 ys12 hs12=>?_) ?_
   ·unfold A0v at hs12
    refine s0<|A0 (L7 rfl rfl) rfl<|es (ra5 rfl rfl rfl rfl rfl)<|C3<|wi hs12 rfl (fun hc14 hs12=>?_) fun hc14 hs12=>?_
    ·refine C6<|C3<|D0<|s0<|oB hs12 fun x15 hx15 hs12=>A0 (N7 (f:=cI) rfl rfl hx15) rfl<|A0 (P7 rfl rfl) rfl<|qm rfl<|es (ra5 rfl rfl rfl rfl rfl)<|s0<|qm rfl<|qm rfl<|A0 (B68 (av:=(fun x=>(.i x))) (gv:=(fun x=>(.i x))) (k:=x15) (z:=0) A7y rfl (B03 rfl) rfl rfl) rfl<|A0 (Y2 rfl rfl) rfl<|E4 (B8i (av:=(fun x=>(.i x))) (gv:=(fun x=>(.i x))) (k:=x15) (v:=(w64 ((Option.getD (kget s12.2 x15) 0) - 1))) A7y rfl rfl rfl rfl rfl) rfl<|es (ra5 rfl rfl rfl rfl rfl)<|s0<|qm rfl<|qm rfl<|A0 (B68 (av:=(fun x=>(.i x))) (gv:=(fun x=>(.i x))) (k:=x15) (z:=0) A7y rfl (B03 rfl) rfl rfl) rfl<|A0 (L7 rfl rfl) rfl<|es (ra5 rfl rfl rfl rfl rfl)<|wi hs12 rfl (fun hc16 hs12=>?_) fun hc16 hs12=>?_
     ·refine s0<|qm rfl<|es (ra1 rfl)<|C4 ?_
      obtain rfl:=os hs12
      exact lx rfl (And.intro rfl (retq trivial (A9 rfl B7) (A4 rfl B6) (A2 A8 B1))) (Sub.refl _)
     ·refine C6<|r0<|A0 (I1 rfl rfl) rfl<|qm rfl<|en (ra4 rfl rfl rfl rfl) ?_
      cases hs12
      exact lnT () rfl (su4 rfl rfl rfl rfl)
    ·refine J0 ?_
     obtain rfl:=os hs12
     exact lx rfl px (.nil _)
   ·rcases o17 with vo17_0 | vo17_1
    ·rintro e s' H' - ⟨rfl,hret⟩
     cases h
     exact hret
    ·rintro e s' H' - ⟨rfl,rfl,rfl⟩
     refine s0<|qm rfl<|es (ra1 rfl)<|C4 ?_
     obtain rfl:=os h
     exact retq trivial (A9 rfl B7) (A4 rfl B6) (A2 A8 B1)
def R4 (a0:room_house) (a1:(Ar5 Int)) (a2:Bool):Option Bool :=
 (if (a2 || true) = true then
  (A01 a0 a1).bind fun x3 =>
  some (!x3)
 else
  some false).bind fun x4 =>
 if x4 = true then
  some false
 else
  (if (a2 || false) = true then
  (X9 a0 a1).bind fun x8 =>
  some (!x8)
  else
  some false).bind fun x9 =>
  if x9 = true then
  some false
  else
  some true
theorem N8 {c:Sc} {H:A3} {a0:room_house} {b0:Nat} (hb0:hcells H b0 = some [.i a0.RoHouse.Weather.Lo,.i a0.RoHouse.Weather.Hi,.i a0.RoHouse.Stoves,(.seq 1 (List.map cI a0.RoHouse.Holds)),(.seq 4 (List.map B5 a0.RoHouse.Places)),(.seq 6 (List.map B2 a0.RoHouse.Figures)),(.seq 1 (List.map cI a0.RoHouse.Bill)),(.xseq 2 [[.b false,(.fn (.func 112) [] [])],[.b true,(.fn (.func 113) [] [])]])]) {a1:(Ar5 Int)} {a2:Bool} {r:Bool} (h:R4 a0 a1 a2 = some r) :
  E8 tab c H (.fn (.func 115) [] []) [.ptr b0 0,(.agg ((J8 cI) a1)),.b a2] [.b r]:= by
 unfold R4 at h
 refine cE rfl rfl<|sg 0 rfl<|A0 (G2 (cs:=(J8 cI) a1) rfl rfl rfl) rfl<|qm rfl<|es (ra3 rfl rfl rfl)<|C3<|s0<|qm rfl<|A0 (N0 rfl rfl) rfl<|A0 (C9 rfl) rfl<|A0 (G6 (x:=(.xseq 2 [[.b false,(.fn (.func 112) [] [])],[.b true,(.fn (.func 113) [] [])]])) rfl hb0 rfl) rfl<|A0 (C3x rfl rfl) rfl<|qm rfl<|es (ra6 rfl rfl rfl rfl rfl rfl)<|D0<|B2e 1 rfl [(0,.ptr b0 0),(2,.b a2),(4,(.ptr (H.length + 0) 0)),(12,(.xseq 2 [[.b false,(.fn (.func 112) [] [])],[.b true,(.fn (.func 113) [] [])]])),(13,.i 2),(14,.i 0)] (fun S hS=>M0 (live:=[0,2,4,12,13,14]) rfl (by decide) (Sub.trans (su6 rfl rfl rfl rfl rfl rfl) hS))<|s0<|A0 (F4 (v:=(.b true)) rfl rfl rfl) rfl<|es (ra7 rfl rfl rfl rfl rfl rfl rfl)<|C3<|I3 rfl rfl<|C6<|C3<|D0<|sg 1 rfl<|A0 (C0x rfl rfl rfl) rfl<|A0 (B1g (ds:=[.b false,(.fn (.func 112) [] [])]) rfl rfl rfl) rfl<|A0 D2 rfl<|E4 (C1 (ds:=[.b false,(.fn (.func 112) [] [])]) rfl rfl rfl rfl (A21 (Nat.add_le_add_left (Nat.le_of_ble_eq_true rfl) _)) rfl) rfl<|es (ra7 rfl rfl rfl rfl rfl rfl rfl)<|s0<|oB h fun x4 hx4 h=>qm rfl<|qm rfl<|gp 4 23 (.b (a2 || true)) 19 rfl rfl (fun hg1=>?_) (fun hg1=>?_) ?_
 ·exact nF rfl hg1 rfl<|nF rfl hg1 rfl<|nF rfl hg1 rfl<|A0 (D6 rfl hg1 rfl) rfl<|ge 4 (by rw [hg1]; rfl) rfl rfl
 ·exact gF rfl hg1<|A0 (C9 rfl) rfl<|gF rfl hg1<|A0 (D1 (x:=(.b false)) rfl rfl rfl) rfl<|gF rfl hg1<|A0 (C2k (v:=.lit (.bool true)) rfl rfl) rfl<|A0 (D7 rfl hg1 rfl) rfl<|ge 4 (by rw [hg1]; rfl) rfl rfl
 refine qm rfl<|gp 7 31 (.b x4) 24 rfl rfl (fun hg2=>?_) (fun hg2=>?_) ?_
 ·refine oB (bt hx4 hg2) fun x3 hx3 hx4=>?_
  obtain rfl:=os hx4
  exact gT rfl hg2<|A0 (C9 rfl) rfl<|gT rfl hg2<|A0 (D1 (x:=(.fn (.func 112) [] [])) rfl rfl rfl) rfl<|gT rfl hg2<|qm rfl<|gT rfl hg2<|A0 (C5 rfl rfl rfl) rfl<|gT rfl hg2<|C2 (rs:=[.b x3]) rfl rfl (A5 rfl (A5 (D9 rfl) B9)) ((A6d (J7 hb0 _) hx3).frz)<|gT rfl hg2<|A0 (A5t rfl) rfl<|A0 (D6 rfl hg2 rfl) rfl<|ge 7 rfl rfl rfl
 ·obtain rfl:=os (bf hx4 hg2)
  exact nT rfl hg2 rfl<|nT rfl hg2 rfl<|nT rfl hg2 rfl<|nT rfl hg2 rfl<|T4 (K9 rfl (by rw [hg2]; rfl)) rfl<|nT rfl hg2 rfl<|A0 (D7 rfl hg2 rfl) rfl<|ge 7 rfl rfl rfl
 refine es (ra7 rfl rfl rfl rfl rfl rfl rfl)<|wi h rfl (fun hc5 h=>?_) fun hc5 h=>?_
 ·refine s0<|qm rfl<|es (ra1 rfl)<|C4<|UnQ.out rfl ?_
  obtain rfl:=os h
  exact retq trivial (A9 rfl B7) (A4 rfl B6) (A2 A8 B1)
 ·refine C6<|r0<|A0 (F4 (v:=(.i 1)) rfl rfl rfl) rfl<|qm rfl<|en (ra6 rfl rfl rfl rfl rfl rfl)<|UnQ.nextT (live:=[0,2,4,12,13,14]) [(0,.ptr b0 0),(2,.b a2),(4,(.ptr (H.length + 0) 0)),(12,(.xseq 2 [[.b false,(.fn (.func 112) [] [])],[.b true,(.fn (.func 113) [] [])]])),(13,.i 2),(14,.i 1)] (H++[(.cells ((J8 cI) a1))]) (su6 rfl rfl rfl rfl rfl rfl) rfl (by decide) (F1 _ _ _) (bdc (A37 hb0) (bdc A8 (bdc (G4 rfl) (bdc (C24 (A7j (A2 A8 (A2 (B37 B1 B1) B1)) (A7j (A2 A8 (A2 (B37 B1 B1) B1)) B7x))) (bdc A8 (bdc A8 bdn))))))<|B2e 1 rfl [(0,.ptr b0 0),(2,.b a2),(4,(.ptr (H.length + 0) 0)),(12,(.xseq 2 [[.b false,(.fn (.func 112) [] [])],[.b true,(.fn (.func 113) [] [])]])),(13,.i 2),(14,.i 1)] (fun S hS=>M0 (live:=[0,2,4,12,13,14]) rfl (by decide) (Sub.trans (su6 rfl rfl rfl rfl rfl rfl) hS))<|s0<|A0 (F4 (v:=(.b true)) rfl rfl rfl) rfl<|es (ra7 rfl rfl rfl rfl rfl rfl rfl)<|C3<|I3 rfl rfl<|C6<|C3<|D0<|sg 1 rfl<|A0 (C0x rfl rfl rfl) rfl<|A0 (B1g (ds:=[.b true,(.fn (.func 113) [] [])]) rfl rfl rfl) rfl<|A0 D2 rfl<|E4 (C1 (ds:=[.b true,(.fn (.func 113) [] [])]) rfl rfl rfl rfl (A21 (Nat.add_le_add_left (Nat.le_of_ble_eq_true rfl) _)) rfl) rfl<|es (ra7 rfl rfl rfl rfl rfl rfl rfl)<|s0<|oB h fun x9 hx9 h=>qm rfl<|qm rfl<|gp 4 23 (.b (a2 || false)) 19 rfl rfl (fun hg6=>?_) (fun hg6=>?_) ?_
  ·exact nF rfl hg6 rfl<|nF rfl hg6 rfl<|nF rfl hg6 rfl<|A0 (D6 rfl hg6 rfl) rfl<|ge 4 (by rw [hg6]; rfl) rfl rfl
  ·exact gF rfl hg6<|A0 (C9 rfl) rfl<|gF rfl hg6<|A0 (D1 (x:=(.b true)) rfl rfl rfl) rfl<|gF rfl hg6<|A0 (C2k (v:=.lit (.bool false)) rfl rfl) rfl<|A0 (D7 rfl hg6 rfl) rfl<|ge 4 (by rw [hg6]; rfl) rfl rfl
  refine qm rfl<|gp 7 31 (.b x9) 24 rfl rfl (fun hg7=>?_) (fun hg7=>?_) ?_
  ·refine oB (bt hx9 hg7) fun x8 hx8 hx9=>?_
   obtain rfl:=os hx9
   exact gT rfl hg7<|A0 (C9 rfl) rfl<|gT rfl hg7<|A0 (D1 (x:=(.fn (.func 113) [] [])) rfl rfl rfl) rfl<|gT rfl hg7<|qm rfl<|gT rfl hg7<|A0 (C5 rfl rfl rfl) rfl<|gT rfl hg7<|C2 (rs:=[.b x8]) rfl rfl (A5 rfl (A5 (D9 rfl) B9)) ((A4j (J7 hb0 _) hx8).frz)<|gT rfl hg7<|A0 (A5t rfl) rfl<|A0 (D6 rfl hg7 rfl) rfl<|ge 7 rfl rfl rfl
  ·obtain rfl:=os (bf hx9 hg7)
   exact nT rfl hg7 rfl<|nT rfl hg7 rfl<|nT rfl hg7 rfl<|nT rfl hg7 rfl<|T4 (K9 rfl (by rw [hg7]; rfl)) rfl<|nT rfl hg7 rfl<|A0 (D7 rfl hg7 rfl) rfl<|ge 7 rfl rfl rfl
  refine es (ra7 rfl rfl rfl rfl rfl rfl rfl)<|wi h rfl (fun hc10 h=>?_) fun hc10 h=>?_
  ·refine s0<|qm rfl<|es (ra1 rfl)<|C4<|UnQ.out rfl ?_
   obtain rfl:=os h
   exact retq trivial (A9 rfl B7) (A4 rfl B6) (A2 A8 B1)
  ·refine C6<|r0<|A0 (F4 (v:=(.i 2)) rfl rfl rfl) rfl<|qm rfl<|en (ra6 rfl rfl rfl rfl rfl rfl)<|UnQ.nextT (live:=[0,2,4,12,13,14]) [(0,.ptr b0 0),(2,.b a2),(4,(.ptr (H.length + 0) 0)),(12,(.xseq 2 [[.b false,(.fn (.func 112) [] [])],[.b true,(.fn (.func 113) [] [])]])),(13,.i 2),(14,.i 2)] (H++[(.cells ((J8 cI) a1))]) (su6 rfl rfl rfl rfl rfl rfl) rfl (by decide) (F1 _ _ _) (bdc (A37 hb0) (bdc A8 (bdc (G4 rfl) (bdc (C24 (A7j (A2 A8 (A2 (B37 B1 B1) B1)) (A7j (A2 A8 (A2 (B37 B1 B1) B1)) B7x))) (bdc A8 (bdc A8 bdn))))))<|B2e 1 rfl [(0,.ptr b0 0),(2,.b a2),(4,(.ptr (H.length + 0) 0)),(12,(.xseq 2 [[.b false,(.fn (.func 112) [] [])],[.b true,(.fn (.func 113) [] [])]])),(13,.i 2),(14,.i 2)] (fun S hS=>M0 (live:=[0,2,4,12,13,14]) rfl (by decide) (Sub.trans (su6 rfl rfl rfl rfl rfl rfl) hS))<|s0<|A0 (F4 (v:=(.b false)) rfl rfl rfl) rfl<|es (ra7 rfl rfl rfl rfl rfl rfl rfl)<|C3<|V8 rfl rfl<|J0<|UnQ.out rfl<|s0<|qm rfl<|es (ra1 rfl)<|C4 ?_
   obtain rfl:=os h
   exact retq trivial (A9 rfl B7) (A4 rfl B6) (A2 A8 B1)
def A1h (a2:Int) (x1:RoPlace) (s2:(Int × Span)):Option ((Int × Span) ⊕ Span) :=
 if (decide (s2.1 < (List.length x1.Warms:Int))) = true then
  (idx x1.Warms s2.1).bind fun x5 =>
  (A9c .i64 a2 s2.1).bind fun x6 =>
  if ((A92 x6 1) == 1) = true then
  some (.inl ((w64 (s2.1 + 1)),(Span.mk (w64 (s2.2.Lo + x5.Lo)) (w64 (s2.2.Hi + x5.Hi)))))
  else
  some (.inl ((w64 (s2.1 + 1)),s2.2))
 else
  some (.inr s2.2)
def R8 (a0:room_house) (a1:Int) (a2:Int):Option Span :=
 (idx a0.RoHouse.Places a1).bind fun x1 =>
 (loop (A1h a2 x1) (0,a0.RoHouse.Weather)).bind fun (o8:Span) =>
 some o8
theorem W3 {c:Sc} {H:A3} {a0:room_house} {b0:Nat} (hb0:hcells H b0 = some [.i a0.RoHouse.Weather.Lo,.i a0.RoHouse.Weather.Hi,.i a0.RoHouse.Stoves,(.seq 1 (List.map cI a0.RoHouse.Holds)),(.seq 4 (List.map B5 a0.RoHouse.Places)),(.seq 6 (List.map B2 a0.RoHouse.Figures)),(.seq 1 (List.map cI a0.RoHouse.Bill)),(.xseq 2 [[.b false,(.fn (.func 112) [] [])],[.b true,(.fn (.func 113) [] [])]])]) {a1:Int} {a2:Int} {r:Span} (h:R8 a0 a1 a2 = some r) :
  E8 tab c H (.fn (.func 83) [] []) [.ptr b0 0,.i a1,.i a2] [(.agg (E0 r))]:= by
 unfold R8 at h
 refine cE rfl rfl<|sg 0 rfl<|A0 D2 rfl<|es (ra4 rfl rfl rfl rfl)<|sg 1 rfl<|qm rfl<|A0 (N0 rfl rfl) rfl<|A0 (C9 rfl) rfl<|A0 (C9 rfl) rfl<|A0 (B1f (ds:=E0 a0.RoHouse.Weather) rfl hb0 rfl rfl) rfl<|A0 D2 rfl<|E4 (C1 (ds:=(E0 a0.RoHouse.Weather)) rfl rfl rfl rfl (B3 rfl) rfl) rfl<|es (ra5 rfl rfl rfl rfl rfl)<|C3<|s0<|oB h fun x1 hx1 h=>qm rfl<|A0 (N0 rfl rfl) rfl<|A0 (C9 rfl) rfl<|A0 (C9 rfl) rfl<|A0 (G6 (x:=(.seq 4 (List.map B5 a0.RoHouse.Places))) rfl hb0 rfl) rfl<|qm rfl<|A0 (N7 (f:=B5) rfl rfl hx1) rfl<|A0 (B3k (ds:=(List.drop 2 (B5 x1))) rfl rfl) rfl<|A0 (P7 rfl rfl) rfl<|A0 (E9 (f:=E0) rfl) rfl<|qm rfl<|es (ra6 rfl rfl rfl rfl rfl rfl)<|D0<|oB h fun o8 ho8 h=>wl (fun s2=>[(2,.i a2),(6,(.ptr (H.length + 0) 0)),(7,(.ptr (H.length + 1) 0)),(23,(.seq 2 (List.map E0 x1.Warms))),(24,(.i (List.length x1.Warms:Int))),(25,.i s2.1)]) (fun (q3:Unit) s2=>[(.cells (E0 (Span.mk 0 0))),(.cells (E0 s2.2))]) 2 (fun r e s' H'=>PX 0 [(6,(.ptr (H.length + 0) 0)),(7,(.ptr (H.length + 1) 0))] (H++[(.cells (E0 (Span.mk 0 0))),(.cells (E0 r))]) e s' H') () ho8 rfl rfl (fun _ _=>rfl) (fun _=>rfl) rfl (fun s2=>(bdc A8 (bdc (G4 rfl) (bdc (G4 rfl) (bdc M4 (bdc A8 (bdc A8 bdn))))))) (fun q3 s2 ys2 hs2=>?_) ?_
 ·unfold A1h at hs2
  refine s0<|A0 (L7 rfl rfl) rfl<|es (ra7 rfl rfl rfl rfl rfl rfl rfl)<|C3<|wi hs2 rfl (fun hc4 hs2=>?_) fun hc4 hs2=>?_
  ·refine C6<|C3<|D0<|sg 2 rfl<|oB hs2 fun x5 hx5 hs2=>qm rfl<|A0 (N7 (f:=E0) rfl rfl hx5) rfl<|A0 (A1d rfl rfl) rfl<|A0 D2 rfl<|qm rfl<|E4 (C1 (ds:=(E0 x5)) rfl rfl rfl rfl (B3 rfl) rfl) rfl<|es (ra8 rfl rfl rfl rfl rfl rfl rfl rfl)<|s0<|oB hs2 fun x6 hx6 hs2=>qm rfl<|qm rfl<|A0 (A5d rfl rfl hx6) rfl<|A0 (F4 (v:=(.i (A92 x6 1))) rfl rfl rfl) rfl<|A0 (J6 rfl rfl) rfl<|es (ra8 rfl rfl rfl rfl rfl rfl rfl rfl)<|wi hs2 rfl (fun hc7 hs2=>?_) fun hc7 hs2=>?_
   ·refine s0<|A0 (C9 rfl) rfl<|A0 (D1 rfl rfl rfl) rfl<|A0 (C9 rfl) rfl<|A0 (D1 rfl rfl rfl) rfl<|A0 (I1 rfl rfl) rfl<|A0 (C9 rfl) rfl<|E4 (C1 (ds:=(E0 (Span.mk (w64 (s2.2.Lo + x5.Lo)) s2.2.Hi))) rfl rfl rfl rfl (B3 rfl) rfl) rfl<|es (ra7 rfl rfl rfl rfl rfl rfl rfl)<|r0<|A0 (C9 rfl) rfl<|A0 (D1 rfl rfl rfl) rfl<|A0 (C9 rfl) rfl<|A0 (D1 rfl rfl rfl) rfl<|A0 (I1 rfl rfl) rfl<|A0 (C9 rfl) rfl<|E4 (C1 (ds:=(E0 (Span.mk (w64 (s2.2.Lo + x5.Lo)) (w64 (s2.2.Hi + x5.Hi))))) rfl rfl rfl rfl (B3 rfl) rfl) rfl<|en (ra6 rfl rfl rfl rfl rfl rfl)<|r0<|A0 (I1 rfl rfl) rfl<|qm rfl<|en (ra6 rfl rfl rfl rfl rfl rfl) ?_
    cases hs2
    exact lnT () rfl (su6 rfl rfl rfl rfl rfl rfl)
   ·refine C6<|r0<|A0 (I1 rfl rfl) rfl<|qm rfl<|en (ra6 rfl rfl rfl rfl rfl rfl) ?_
    cases hs2
    exact lnT () rfl (su6 rfl rfl rfl rfl rfl rfl)
  ·refine J0 ?_
   obtain rfl:=os hs2
   exact lx rfl px (su2 rfl rfl)
 ·rintro e s' H' - ⟨rfl,rfl,rfl⟩
  refine s0<|A0 (C5 rfl rfl rfl) rfl<|E4 (C1 (ds:=(E0 o8)) rfl rfl rfl rfl (B3 rfl) rfl) rfl<|es (ra1 rfl)<|C4 ?_
  obtain rfl:=os h
  exact retq trivial (E5 (E2 (ds:=E0 o8) rfl rfl rfl rfl) B7) (A4 (H9 rfl) B6) (A2 (F9 rfl) B1)
def P1 (a0:room_house) (a1:Int) (a2:Int) (a3:Int):Option Int :=
 (R8 a0 a2 a3).bind fun x1 =>
 (idx a0.RoHouse.Figures a1).bind fun x2 =>
 if (((Span.mk (B1c x1.Lo x2.Cracks) (B2o x1.Hi x2.Slumps)).Lo == x1.Lo) && (((Span.mk (B1c x1.Lo x2.Cracks) (B2o x1.Hi x2.Slumps)).Hi == x1.Hi) && true)) = true then
  some 1
 else
  if (decide ((Span.mk (B1c x1.Lo x2.Cracks) (B2o x1.Hi x2.Slumps)).Lo > (Span.mk (B1c x1.Lo x2.Cracks) (B2o x1.Hi x2.Slumps)).Hi)) = true then
  some 2
  else
  some 0
theorem Q3 {c:Sc} {H:A3} {a0:room_house} {b0:Nat} (hb0:hcells H b0 = some [.i a0.RoHouse.Weather.Lo,.i a0.RoHouse.Weather.Hi,.i a0.RoHouse.Stoves,(.seq 1 (List.map cI a0.RoHouse.Holds)),(.seq 4 (List.map B5 a0.RoHouse.Places)),(.seq 6 (List.map B2 a0.RoHouse.Figures)),(.seq 1 (List.map cI a0.RoHouse.Bill)),(.xseq 2 [[.b false,(.fn (.func 112) [] [])],[.b true,(.fn (.func 113) [] [])]])]) {a1:Int} {a2:Int} {a3:Int} {r:Int} (h:P1 a0 a1 a2 a3 = some r) :
  E8 tab c H (.fn (.func 86) [] []) [.ptr b0 0,.i a1,.i a2,.i a3] [.i r]:= by
 unfold P1 at h
 refine cE rfl rfl<|s0<|qm rfl<|es (ra4 rfl rfl rfl rfl)<|sg 0 rfl<|oB h fun x1 hx1 h=>oB h fun x2 hx2 h=>qm rfl<|qm rfl<|qm rfl<|Z2 [0,1] (A1q [0,1] rfl O5 rfl rfl) (seen0 rfl) (B3l (rs:=[(.agg (E0 x1))]) rfl rfl (N2 rfl (N2 rfl (N2 rfl A3g))) (A5 rfl (A5 rfl (A5 rfl B9))) ((W3 (B4i hb0 _) hx1).frz)) rfl<|A0 D2 rfl<|A0 D2 rfl<|C07 [] [(.cells (E0 x1)),(.cells (B2 (RoFigure.mk (ByteArray.mk #[]) 0 0 0 0 0)))] (W9 hb0) (C3i [] rfl (A36 rfl A2d O5) rfl rfl (W9 hb0)) (seen0 rfl) (C0t (I5 _ _ _) (ds:=(E0 x1)) rfl rfl rfl rfl rfl rfl) rfl rfl rfl<|qm rfl<|A0 (N0 rfl rfl) rfl<|A0 (C9 rfl) rfl<|A0 (C9 rfl) rfl<|Z2 [0,1] (A1q [0,1] rfl O5 rfl rfl) (A8i (b:=b0) rfl (A34 (B2l _ _) A5q)) (G6 (x:=(.seq 6 (List.map B2 a0.RoHouse.Figures))) rfl hb0 rfl) rfl<|qm rfl<|Z2 [0,1] (A1q [0,1] rfl O5 rfl rfl) (A58 rfl) (N7 (f:=B2) rfl rfl hx2) rfl<|Z2 [0,1] (A1q [0,1] rfl O5 rfl rfl) (A58 rfl) (A1d rfl rfl) rfl<|E4 (C1 (ds:=(B2 x2)) rfl rfl rfl rfl (B3 rfl) rfl) rfl<|es (ra2 rfl rfl)<|sg 2 rfl<|A0 (C9 rfl) rfl<|A0 (D1 rfl rfl rfl) rfl<|A0 (C9 rfl) rfl<|A0 (D1 rfl rfl rfl) rfl<|A0 (C2f rfl rfl) rfl<|A0 (C9 rfl) rfl<|A0 (D1 rfl rfl rfl) rfl<|A0 (C9 rfl) rfl<|A0 (D1 rfl rfl rfl) rfl<|A0 (C2f rfl rfl) rfl<|A0 (F2 (cs:=E0 (Span.mk (B1c x1.Lo x2.Cracks) (B2o x1.Hi x2.Slumps))) rfl rfl) rfl<|A0 D2 rfl<|E4 (C1 (ds:=(E0 (Span.mk (B1c x1.Lo x2.Cracks) (B2o x1.Hi x2.Slumps)))) rfl rfl rfl rfl (B3 rfl) rfl) rfl<|es (ra2 rfl rfl)<|C3<|D0<|s0<|A0 (C5 rfl rfl rfl) rfl<|A0 (C5 rfl rfl rfl) rfl<|A0 (B4m (a:=E0 (Span.mk (B1c x1.Lo x2.Cracks) (B2o x1.Hi x2.Slumps))) (b:=E0 x1) rfl rfl rfl rfl (Z0 (Z0 B0b))) rfl<|qm rfl<|es (ra2 rfl rfl)<|wi h rfl (fun hc3 h=>?_) fun hc3 h=>?_
 ·refine s0<|qm rfl<|es (ra1 rfl)<|C4 ?_
  obtain rfl:=os h
  exact retq trivial (A9 rfl B7) (A4 rfl B6) (A2 A8 B1)
 ·refine s0<|A0 (C9 rfl) rfl<|A0 (D1 rfl rfl rfl) rfl<|A0 (C9 rfl) rfl<|A0 (D1 rfl rfl rfl) rfl<|A0 (A09 rfl rfl) rfl<|qm rfl<|es (ra1 rfl)<|wi h rfl (fun hc4 h=>?_) fun hc4 h=>?_
  ·refine s0<|qm rfl<|es (ra1 rfl)<|C4 ?_
   obtain rfl:=os h
   exact retq trivial (A9 rfl B7) (A4 rfl B6) (A2 A8 B1)
  ·refine C6<|s0<|qm rfl<|es (ra1 rfl)<|C4 ?_
   obtain rfl:=os h
   exact retq trivial (A9 rfl B7) (A4 rfl B6) (A2 A8 B1)
end Rm
end
section
set_option maxRecDepth 100000
namespace Rm
open Go Am Go.Proofs.YtbheamjhjgoccaaDoor.Cd
section
variable {σ ρ:Type}
def B7e (t:room_house) (lit:Int) (rec:Int→Int→Ar5 Int→σ→Option (Ar5 Int × (σ ⊕ ρ))) (f u:Int) (x:Int × Ar5 Int × σ):Option ((Int × Ar5 Int × σ) ⊕ ((Ar5 Int × ρ) ⊕ (Ar5 Int × σ))) :=
 if (decide (x.1 < (List.length t.RoHouse.Places:Int))) = true then
  (A9c .i64 u x.1).bind fun q =>
  (if (A92 q 1 == 1) = true then some true else (P1 t f x.1 lit).bind fun z=>some (z != 1)).bind fun g =>
  if g = true then some (.inl (w64 (x.1 + 1),x.2.1,x.2.2))
  else (idx (Ar5.l x.2.1) f).bind fun _ =>
   (R4 t (Ar5.set x.2.1 f (w64 (x.1 + 1))) false).bind fun k =>
   if k = true then
    (B18 .i64 1 x.1).bind fun b =>
    (rec (w64 (f + 1)) (orI u b) (Ar5.set x.2.1 f (w64 (x.1 + 1))) x.2.2).bind fun y =>
    match y with
    | (p',.inl s')=>some (.inl (w64 (x.1 + 1),p',s'))
    | (p',.inr r)=>some (.inr (.inl (p',r)))
   else some (.inl (w64 (x.1 + 1),Ar5.set x.2.1 f (w64 (x.1 + 1)),x.2.2))
 else some (.inr (.inr (x.2.1,x.2.2)))
def A88 (t:room_house) (lit:Int) (body:room_plan→σ→Option (σ ⊕ ρ)):Nat→Int→Int→Ar5 Int→σ→Option (Ar5 Int × (σ ⊕ ρ))
 | 0,_,_,_,_=>none
 | k + 1,f,u,p,s =>
  if (f == (List.length t.RoHouse.Figures:Int)) = true then
   (R4 t p true).bind fun q =>
   if q = true then (body ⟨lit,p⟩ s).bind fun x=>some (p,x) else some (p,.inl s)
  else (loop (B7e t lit (A88 t lit body k) f u) (0,p,s)).bind fun o =>
   match o with
   | .inl (p',r)=>some (p',.inr r)
   | .inr (p',s')=>(idx (Ar5.l p') f).bind fun _=>A88 t lit body k (w64 (f + 1)) u (Ar5.set p' f 0) s'
def C0m (t:room_house) (n:Int) (body:room_plan→σ→Option (σ ⊕ ρ)) (x:Int × σ):Option ((Int × σ) ⊕ (ρ ⊕ σ)) :=
 if (decide (x.1 < n)) = true then
  (A88 t x.1 body 64 0 0 ⟨0,0,0,0,0⟩ x.2).bind fun y =>
  match y with
  | (_,.inl s')=>some (.inl (w64 (x.1 + 1),s'))
  | (_,.inr r)=>some (.inr (.inl r))
 else some (.inr (.inr x.2))
end
def A77 (t:room_house) (σ ρ:Type) (body:room_plan→σ→Option (σ ⊕ ρ)) (s:σ):Option (σ ⊕ ρ) :=
 (B18 .i64 1 t.RoHouse.Stoves).bind fun n =>
 (loop (C0m t n body) (0,s)).bind fun o =>
 match o with
 | .inl r=>some (.inr r)
 | .inr s'=>some (.inl s')
def C4e:AV:=.xseq 2 [[.b false,(.fn (.func 112) [] [])],[.b true,(.fn (.func 113) [] [])]]
def A8z (t:room_house):List AV:=[.i t.RoHouse.Weather.Lo,.i t.RoHouse.Weather.Hi,.i t.RoHouse.Stoves,(.seq 1 (List.map cI t.RoHouse.Holds)),(.seq 4 (List.map B5 t.RoHouse.Places)),(.seq 6 (List.map B2 t.RoHouse.Figures)),(.seq 1 (List.map cI t.RoHouse.Bill)),C4e]
def caps (N b1:Nat):List AV:=[.ptr b1 0,.ptr (N + 3) 0,.ptr (N + 0) 0,.ptr (N + 2) 0,.ptr (N + 1) 0,.ptr (N + 4) 0]
def L1 (bt:Nat) (y:AV):List AO:=[.cells [y],.cells [.fn (.func 86) [.ptr bt 0] []]]
def L0 (N b1 bt:Nat) (y:AV) (lit:Int) (p:Ar5 Int):List AO:=[.cells [y],.cells [.fn (.func 86) [.ptr bt 0] []],.cells [.i lit],.cells (J8 cI p),.cells [.fn (.func 117) [] (caps N b1)]]
section
variable {T:Tab} {s:B4} {H0 H:A3} {l:List AO} {c:Sc} {n0 N:Nat} {hc:List (Option (List Nat))} {ops:List AOper} {R:B4→A3→Prop}
theorem A3s {a:Opd} {j k:Nat} {cs:List AV} (hN:H0.length = N) (h:ev s a = some (.ptr (N + j) 0)) (hl:l[j]? = some (.cells cs)) (hk:Nat.beq cs.length k = true):One T c n0 s (H0++l) (.load (some k) a) (.agg cs) (H0++l):= by subst hN; exact C5 h hl hk
theorem B3j {a x:Opd} {j:Nat} {p:Ar5 Int} {m z y:Int} (hN:H0.length = N) (h:ev s a = some (.ptr (N + j) (0 + m.toNat * 1))) (hv:ev s x = some (.i z)) (hl:l[j]? = some (.cells (J8 cI p))) (hy:idx p.l m = some y):One T c n0 s (H0++l) (.store 1 a x) (.tup []) (H0++l.set j (.cells (J8 cI (p.set m z)))):= by
 subst hN
 exact A3t (f:=cI) (e:=Ar5.l p) (e2:=Ar5.l (p.set m z)) (z:=z) (post:=[]) (cs:=J8 cI p) (o:=0) h hv rfl hl rfl rfl (fun _=>rfl) hy (Ar5.set_l hy) rfl (B3 rfl)
theorem gN {d:Nat} {op:AOp} {t:Nat} {g:Bool} {w:Bool} {hid:List Nat} {hida:List (Nat × List Nat)} {inc src:Nat} (hg:sget s t = some (.lit (.bool g))) (hw:(g == w) = false) (hwr:writes op = true) (k:J4 T c n0 ops ((d,.tup []) :: s) H (none :: hc) R) :
  J4 T c n0 (⟨some d,op,some (t,w),hid,hida,inc,src⟩ :: ops) s H hc R:=T4 (K9 hg hw) hwr k
end
section
variable {σ ρ:Type} {t:room_house} {Hm:σ ⊕ ρ→A3} {N b1 bt:Nat} {y:AV} {body:room_plan→σ→Option (σ ⊕ ρ)}
theorem B8h (hN:∀x,(Hm x).length = N) (h1:∀x,hcells (Hm x) b1 = some [.ptr bt 0]) (ht:∀x,hcells (Hm x) bt = some (A8z t))
  (hy:∀{L:A3} {c:Sc} {p:room_plan} {s:σ} {o:σ ⊕ ρ},U7 c (Hm (.inl s)++L) = true→body p s = some o→O3 tab c (Hm (.inl s)++L) y [.agg (A1 p)] [.b o.isLeft] (Hm o++L)) (lit:Int) :
  ∀ (k:Nat) (f u:Int) (p:Ar5 Int) (s:σ) (p':Ar5 Int) (x:σ ⊕ ρ),A88 t lit body k f u p s = some (p',x)→∀ c:Sc,U7 c (Hm (.inl s)++L0 N b1 bt y lit p) = true →
   O3 tab c (Hm (.inl s)++L0 N b1 bt y lit p) (.fn (.func 117) [] (caps N b1)) [.i f,.i u] [.b x.isLeft] (Hm x++L0 N b1 bt y lit p')
 | 0,_,_,_,_,_,_,h,_,_=>by cases h
 | k + 1,f,u,p,s,p',x,h,c,hsc=>by
  have ih:=B8h hN h1 ht hy lit k
  unfold A88 at h
  have hHl:(Hm (.inl s)++L0 N b1 bt y lit p).length = N + 5:= by rw [List.length_append,hN]; rfl
  refine B48 (aq:=[.i f,.i u,.ptr b1 0,.ptr (N + 3) 0,.ptr (N + 0) 0,.ptr (N + 2) 0,.ptr (N + 1) 0,.ptr (N + 4) 0]) rfl rfl rfl ?_
  have hl3:∀x p,(Hm x++L0 N b1 bt y lit p).length = N + 5:=fun x p=>by rw [List.length_append,hN]; rfl
  have hsc':∀x q,U7 ⟨(Hm (.inl s)++L0 N b1 bt y lit p).length,c.cur :: c.outer⟩ (Hm (.inl x)++L0 N b1 bt y lit q) = true:=fun x p'=>B7m hsc (by rw [hl3,hl3]; exact Nat.le_refl _) (by rw [hl3,hl3]; exact Nat.le_refl _)
  have htk:∀x p q,(Hm x++L0 N b1 bt y lit p).take (Hm (.inl s)++L0 N b1 bt y lit q).length = Hm x++L0 N b1 bt y lit p:=fun x p q=>by rw [hl3,← hl3 x p]; exact List.take_length
  refine s0<|qm rfl<|es (ra8 rfl rfl rfl rfl rfl rfl rfl rfl)<|C2y<|C3<|s0<|qm rfl<|A0 (G6 rfl (h1 _) rfl) rfl<|A0 (N0 rfl rfl) rfl<|A0 (C9 rfl) rfl<|A0 (C9 rfl) rfl<|A0 (G6 rfl (ht _) rfl) rfl<|A0 (E9 (f:=B2) rfl) rfl<|A0 (J6 rfl rfl) rfl<|es (ra9 rfl rfl rfl rfl rfl rfl rfl rfl rfl)<|wi h rfl (fun hc h=>?_) fun hc h=>?_
  ·refine oB h fun q hq h=>?_
   cases q with
   | true =>
    refine oB h fun o ho h=>?_
    obtain ⟨rfl,rfl⟩:=Prod.mk.inj (os h)
    refine s0<|A0 (G6 rfl (h1 _) rfl) rfl<|A0 (A3s (hN _) rfl rfl rfl) rfl<|C2 (rs:=[.b true]) rfl rfl (A5 rfl (A5 (D9 rfl) (A5 rfl B9))) ((N8 (J7 (ht _) _) hq).frz)<|A0 (A5t rfl) rfl<|qm rfl<|gF rfl rfl<|A0 (A53 (hN _) rfl rfl rfl) rfl<|gF rfl rfl<|A0 (A53 (hN _) rfl rfl rfl) rfl<|gF rfl rfl<|A0 (A3s (hN _) rfl rfl rfl) rfl<|gF rfl rfl<|A0 (F2 (cs:=A1 ⟨lit,p⟩) rfl rfl) rfl<|gF rfl rfl<|B1s (A54 rfl rfl (A5 (D9 rfl) B9) (hy (hsc' _ _) ho) rfl) rfl<|A0 (D7 rfl rfl rfl) rfl<|qm rfl<|es (ra1 rfl)<|C4 ?_
    show B35 _ _ _ _ .ret _ _
    exact B9l trivial (A9 rfl B7) (A4 (v:=.lit (.bool o.isLeft)) rfl B6) (A2 A8 B1) (htk _ _ _)
   | false =>
    cases h
    refine s0<|A0 (G6 rfl (h1 _) rfl) rfl<|A0 (A3s (hN _) rfl rfl rfl) rfl<|C2 (rs:=[.b false]) rfl rfl (A5 rfl (A5 (D9 rfl) (A5 rfl B9))) ((N8 (J7 (ht _) _) hq).frz)<|A0 (A5t rfl) rfl<|qm rfl<|nF rfl rfl rfl<|nF rfl rfl rfl<|nF rfl rfl rfl<|nF rfl rfl rfl<|gN rfl rfl rfl<|A0 (D6 rfl rfl rfl) rfl<|qm rfl<|es (ra1 rfl)<|C4 ?_
    show B35 _ _ _ _ .ret _ _
    exact B9l trivial (A9 rfl B7) (A4 (v:=.lit (.bool true)) rfl B6) (A2 A8 B1) (htk _ _ _)
  ·refine oB h fun o ho h=>?_
   refine C6<|C3<|C6<|C3<|s0<|A0 (G6 rfl (h1 _) rfl) rfl<|A0 (N0 rfl rfl) rfl<|A0 (C9 rfl) rfl<|A0 (C9 rfl) rfl<|A0 (G6 rfl (ht _) rfl) rfl<|A0 (E9 (f:=B5) rfl) rfl<|qm rfl<|es (ra9 rfl rfl rfl rfl rfl rfl rfl rfl rfl)<|D0 ?_
   refine A2a (A8l (γ:=Unit) (live:=[0,1,2,3,5,6,7,36,37]) (body:=B7e t lit (A88 t lit body k) f u) (fun x=>[(0,.i f),(1,.i u),(2,.ptr b1 0),(3,.ptr (N + 3) 0),(5,.ptr (N + 2) 0),(6,.ptr (N + 1) 0),(7,.ptr (N + 4) 0),(36,.i (List.length t.RoHouse.Places:Int)),(37,.i x.1)]) (fun _ x=>Hm (.inl x.2.2)++L0 N b1 bt y lit x.2.1) (N + 5)
    (fun r e s' H'=>match r with
     | .inl r=>e = .ret∧s' = [(10,.b false)]∧H' = Hm (.inr r.2)++L0 N b1 bt y lit r.1
     | .inr r=>e = .exit 0∧s' = [(0,.i f),(1,.i u),(3,.ptr (N + 3) 0),(7,.ptr (N + 4) 0)]∧H' = Hm (.inl r.2)++L0 N b1 bt y lit r.1) (fun _ x=>hl3 _ _) (fun _=>rfl) (by decide) (fun x _=>?_) ?_ ho ()) ?_
   ·have hb:b1 < N:= by have:=W9 (h1 (.inl s)); rwa [hN] at this
    refine bdc A8 (bdc A8 (bdc ?_ (bdc (G4 rfl) (bdc (G4 rfl) (bdc (G4 rfl) (bdc (G4 rfl) (bdc A8 (bdc A8 bdn))))))))
    simp only [AV.bd]; exact Nat.ble_eq_true_of_le (by omega)
   ·intro _ x o' hb
    unfold B7e at hb
    have hcs':∀q,U7 ⟨N + 5,(Hm (.inl s)++L0 N b1 bt y lit p).length :: c.cur :: c.outer⟩ (Hm (.inl x.2.2)++L0 N b1 bt y lit q) = true:=fun q=>by
     have:=hsc' x.2.2 q
     unfold U7 at this ⊢
     rw [List.all_cons]
     exact Bool.and_eq_true_iff.2 ⟨Nat.ble_eq_true_of_le (Nat.le_of_eq (hl3 _ _).symm),this⟩
    have hlx:∀{z:σ ⊕ ρ} {q:Ar5 Int},(Hm z++L0 N b1 bt y lit q).take (N + 5) = Hm z++L0 N b1 bt y lit q:=fun {z q}=>by rw [← hl3 z q]; exact List.take_length
    refine s0<|A0 (L7 rfl rfl) rfl<|es (ra10 rfl rfl rfl rfl rfl rfl rfl rfl rfl rfl)<|C3<|wi hb rfl (fun hc hb=>?_) fun hc hb=>?_
    ·refine oB hb fun q hq hb=>oB hb fun g hg hb=>?_
     refine C6<|C3<|D0<|s0<|qm rfl<|qm rfl<|es (ra10 rfl rfl rfl rfl rfl rfl rfl rfl rfl rfl)<|C3<|s0<|qm rfl<|qm rfl<|A0 (A5d rfl rfl hq) rfl<|A0 (F4 (v:=(.i (A92 q 1))) rfl rfl rfl) rfl<|A0 (J6 rfl rfl) rfl<|qm rfl ?_
     refine gp 7 52 (.b g) 45 rfl rfl (fun hg1=>?_) (fun hg1=>?_) ?_
     ·obtain rfl:=os (Am.bt hg hg1)
      exact nF rfl hg1 rfl<|nF rfl hg1 rfl<|nF rfl hg1 rfl<|nF rfl hg1 rfl<|gN rfl (by rw [hg1]; rfl) rfl<|nF rfl hg1 rfl<|A0 (D6 rfl hg1 rfl) rfl<|ge 7 rfl rfl rfl
     ·refine oB (Am.bf hg hg1) fun z hz hg=>?_
      obtain rfl:=os hg
      have hf:∀{c:Sc},E8 tab c (Hm (.inl x.2.2)++L0 N b1 bt y lit x.2.1) (.fn (.func 86) [.ptr bt 0] []) [.i f,.i x.1,.i lit] [.i z]:=B44 (Q3 (J7 (ht _) _) hz)
      exact gF rfl hg1<|A0 (A53 (hN _) rfl rfl rfl) rfl<|gF rfl hg1<|qm rfl<|gF rfl hg1<|qm rfl<|gF rfl hg1<|A0 (A53 (hN _) rfl rfl rfl) rfl<|gF rfl hg1<|C2 (rs:=[.i z]) rfl rfl (A5 rfl (A5 rfl (A5 rfl B9))) hf.frz<|gF rfl hg1<|A0 (M7 rfl rfl) rfl<|A0 (D7 rfl hg1 rfl) rfl<|ge 7 rfl rfl rfl
     refine es (ra11 rfl rfl rfl rfl rfl rfl rfl rfl rfl rfl rfl)<|wi hb rfl (fun hc2 hb=>?_) fun hc2 hb=>?_
     ·refine J0<|r0<|A0 (I1 rfl rfl) rfl<|qm rfl<|en (ra9 rfl rfl rfl rfl rfl rfl rfl rfl rfl) ?_
      cases hb
      exact ⟨rfl,su9 rfl rfl rfl rfl rfl rfl rfl rfl rfl,(),hlx⟩
     ·refine oB hb fun z hz hb=>oB hb fun a ha hb=>?_
      refine C6<|s0<|qm rfl<|qm rfl<|A0 (I1 rfl rfl) rfl<|A0 (A3e (e:=Ar5.l x.2.1) rfl rfl rfl hz) rfl<|E4 (B3j (hN _) rfl rfl rfl hz) rfl<|es (ra10 rfl rfl rfl rfl rfl rfl rfl rfl rfl rfl) ?_
      have hL:(L0 N b1 bt y lit x.2.1).set 3 (.cells (J8 cI (Ar5.set x.2.1 f (w64 (x.1 + 1))))) = L0 N b1 bt y lit (Ar5.set x.2.1 f (w64 (x.1 + 1))):=rfl
      rw [hL]
      cases a with
      | false =>
       refine s0<|A0 (G6 rfl (h1 _) rfl) rfl<|A0 (A3s (hN _) rfl rfl rfl) rfl<|C2 (rs:=[.b false]) rfl rfl (A5 rfl (A5 (D9 rfl) (A5 rfl B9))) ((N8 (J7 (ht _) _) ha).frz)<|qm rfl<|nT rfl rfl rfl<|nT rfl rfl rfl<|nT rfl rfl rfl<|nT rfl rfl rfl<|nT rfl rfl rfl<|nT rfl rfl rfl<|nT rfl rfl rfl<|gN rfl rfl rfl<|nT rfl rfl rfl<|A0 (D7 rfl rfl rfl) rfl<|es (ra10 rfl rfl rfl rfl rfl rfl rfl rfl rfl rfl)<|V8 rfl rfl<|C6<|r0<|A0 (I1 rfl rfl) rfl<|qm rfl<|en (ra9 rfl rfl rfl rfl rfl rfl rfl rfl rfl) ?_
       cases hb
       exact ⟨rfl,su9 rfl rfl rfl rfl rfl rfl rfl rfl rfl,(),hlx⟩
      | true =>
       refine oB hb fun b hb2 hb=>oB hb fun o ho hb=>?_
       have hcc:=fun v=>ih _ _ _ _ _ _ ho ⟨N + 5,v⟩
       obtain ⟨p1,y1⟩:=o
       have hcc:=ih _ _ _ _ _ _ ho ⟨N + 5,(Hm (.inl s)++L0 N b1 bt y lit p).length :: c.cur :: c.outer⟩ (hcs' _)
       refine s0<|A0 (G6 rfl (h1 _) rfl) rfl<|A0 (A3s (hN _) rfl rfl rfl) rfl<|C2 (rs:=[.b true]) rfl rfl (A5 rfl (A5 (D9 rfl) (A5 rfl B9))) ((N8 (J7 (ht _) _) ha).frz)<|qm rfl<|gT rfl rfl<|A0 (A53 (hN _) rfl rfl rfl) rfl<|gT rfl rfl<|qm rfl<|gT rfl rfl<|A0 (I1 rfl rfl) rfl<|gT rfl rfl<|qm rfl<|gT rfl rfl<|qm rfl<|gT rfl rfl<|A0 (A70 rfl rfl hb2) rfl<|gT rfl rfl<|A0 (F4 (v:=(.i (orI u b))) rfl rfl rfl) rfl<|gT rfl rfl<|B1s (A54 rfl rfl (A5 rfl (A5 rfl B9)) hcc rfl) rfl<|gT rfl rfl<|A0 (A5t rfl) rfl<|A0 (D6 rfl rfl rfl) rfl<|es (ra10 rfl rfl rfl rfl rfl rfl rfl rfl rfl rfl) ?_
       cases y1 with
       | inl s1 =>
        refine V8 rfl rfl<|C6<|r0<|A0 (I1 rfl rfl) rfl<|qm rfl<|en (ra9 rfl rfl rfl rfl rfl rfl rfl rfl rfl) ?_
        cases hb
        exact ⟨rfl,su9 rfl rfl rfl rfl rfl rfl rfl rfl rfl,(),hlx⟩
       | inr r =>
        refine I3 rfl rfl<|s0<|qm rfl<|es (ra1 rfl)<|C4 ?_
        cases hb
        exact ⟨rfl,_,Sub.refl _,rfl,rfl,rfl⟩
    ·refine J0 ?_
     cases hb
     exact ⟨rfl,_,su4 rfl rfl rfl rfl,rfl,rfl,rfl⟩
   ·intro e s' H' q
    obtain ⟨_,q⟩:=q
    rcases o with ⟨p1,r⟩ | ⟨p1,s1⟩
    ·obtain ⟨rfl,rfl,rfl⟩:=q
     cases h
     show B35 _ _ _ _ .ret _ _
     exact B9l trivial (A9 rfl B7) (A4 (v:=.lit (.bool false)) rfl B6) (A2 A8 B1) (htk _ _ _)
    ·obtain ⟨rfl,rfl,rfl⟩:=q
     refine oB h fun z hz h=>?_
     refine s0<|qm rfl<|A0 (A3e (e:=Ar5.l p1) rfl rfl rfl hz) rfl<|E4 (B3j (hN _) rfl rfl rfl hz) rfl<|es (ra3 rfl rfl rfl) ?_
     have hL:(L0 N b1 bt y lit p1).set 3 (.cells (J8 cI (Ar5.set p1 f 0))) = L0 N b1 bt y lit (Ar5.set p1 f 0):=rfl
     rw [hL]
     refine s0<|A0 (A53 (hN _) rfl rfl rfl) rfl<|qm rfl<|A0 (I1 rfl rfl) rfl<|qm rfl<|B1s (A54 rfl rfl (A5 rfl (A5 rfl B9)) (ih _ _ _ _ _ _ h _ (hsc' _ _)) rfl) rfl<|qm rfl<|es (ra1 rfl)<|C4 ?_
     show B35 _ _ _ _ .ret _ _
     exact B9l trivial (A9 rfl B7) (A4 (v:=.lit (.bool x.isLeft)) rfl B6) (A2 A8 B1) (htk _ _ _)
end
section
variable {t:room_house} {b1 bt:Nat}
theorem B1u:C4y tab 116 [.ptr b1 0] (fun p:room_plan=>.agg (A1 p)) (fun H=>hcells H b1 = some [.ptr bt 0]∧hcells H bt = some (A8z t)) (A77 t):= by
 intro σ ρ Hm N hN hpre y hyb hyc body hy a0 o ho c hc
 unfold A77 at ho
 refine oB ho fun n hn ho=>oB ho fun z hz ho=>?_
 have h1:∀x,hcells (Hm x) b1 = some [.ptr bt 0]:=fun x=>(hpre x).1
 have ht:∀x,hcells (Hm x) bt = some (A8z t):=fun x=>(hpre x).2
 refine B48 (aq:=[y,.ptr b1 0]) rfl rfl rfl ?_
 have e:=hN (.inl a0)
 have key:WP tab c116 [(0,y),(1,.ptr b1 0)] (Hm (.inl a0)++[]) ⟨(Hm (.inl a0)).length,c.cur :: c.outer⟩ (B35 (Hm (.inl a0)) (Hm o) [] []):= by
  refine sg 0 rfl<|A0 (G2 rfl hyc rfl) rfl<|es (ra2 rfl rfl)<|sg 1 rfl<|A0 (G6 rfl (h1 _) rfl) rfl<|A0 (A1m rfl rfl) rfl<|A0 D2 rfl<|E4 (C1 rfl rfl rfl rfl (A21 ?_) rfl) rfl<|es (ra3 rfl rfl rfl)<|s0<|A0 (G6 rfl (h1 _) rfl) rfl<|A0 (N0 rfl rfl) rfl<|A0 (C9 rfl) rfl<|A0 (C9 rfl) rfl<|A0 (G6 rfl (ht _) rfl) rfl<|A0 (A70 rfl rfl hn) rfl<|qm rfl<|es (ra5 rfl rfl rfl rfl rfl)<|D0 ?_
  ·exact Nat.le_add_right _ _
  have hl2:∀x,(Hm x++L1 bt y).length = N + 2:=fun x=>by rw [List.length_append,hN]; rfl
  have htk:∀x,(Hm x++L1 bt y).take (Hm (.inl a0)).length = Hm x:=fun x=>by rw [e,← hN x]; exact List.take_left
  refine A2a (A8l (γ:=Unit) (live:=[1,2,3,14,15]) (body:=C0m t n body) (fun x=>[(1,.ptr b1 0),(2,.ptr ((Hm (.inl a0)).length + 0) 0),(3,.ptr ((Hm (.inl a0)).length + 1) 0),(14,.i n),(15,.i x.1)]) (fun _ x=>Hm (.inl x.2)++L1 bt y) (N + 2)
   (fun r e s' H'=>match r with
    | .inl r=>e = .ret∧H'.take (N + 2) = Hm (.inr r)++L1 bt y
    | .inr r=>e = .exit 0∧H' = Hm (.inl r)++L1 bt y) (fun _ x=>hl2 _) (fun _=>rfl) (by decide) (fun x _=>?_) ?_ hz ()) ?_
  ·have hb:b1 < N:= by have:=W9 (h1 (.inl a0)); rwa [hN] at this
   refine bdc ?_ (bdc ?_ (bdc ?_ (bdc A8 (bdc A8 bdn))))
   all_goals (simp only [AV.bd]; exact Nat.ble_eq_true_of_le (by omega))
  ·rw [e]
   have hsc:∀s:σ,U7 ⟨N,c.cur :: c.outer⟩ (Hm (.inl s)++L1 bt y) = true:=fun s=>B7m hc (by rw [hl2,e]; omega) (by rw [hl2]; omega)
   clear e hc htk
   intro _ x o' hb
   unfold C0m at hb
   obtain rfl:=hN (.inl x.2)
   refine s0<|A0 (L7 rfl rfl) rfl<|es (ra6 rfl rfl rfl rfl rfl rfl)<|C3<|wi hb rfl (fun hc hb=>?_) fun hc hb=>?_
   ·refine oB hb fun w hw hb=>?_
    obtain ⟨p',w⟩:=w
    have hcc:=B8h hN h1 ht hy x.1 64 0 0 ⟨0,0,0,0,0⟩ x.2 p' w hw ⟨(Hm (.inl x.2)).length + 2,(Hm (.inl x.2)).length :: c.cur :: c.outer⟩ (by
     have h:=hsc x.2
     refine B7m (c:=⟨(Hm (.inl x.2)).length,c.cur :: c.outer⟩) h ?_ ?_
     ·rw [List.length_append,List.length_append]; exact Nat.add_le_add_left (show 2≤5 by decide) _
     ·rw [List.length_append]; exact Nat.add_le_add_left (Nat.le_of_ble_eq_true rfl) _)
    refine C6<|C3<|D0<|sg 2 rfl<|qm rfl<|A0 D2 rfl<|E4 (C1 rfl rfl rfl rfl (B3 rfl) rfl) rfl<|es (ra6 rfl rfl rfl rfl rfl rfl)<|sg 3 rfl<|A0 D2 rfl<|es (ra7 rfl rfl rfl rfl rfl rfl rfl)<|sg 4 rfl<|A0 D2 rfl<|es (ra8 rfl rfl rfl rfl rfl rfl rfl rfl)<|s0<|A0 (A1m rfl rfl) rfl<|E4 (C1 rfl rfl rfl rfl (A21 ?_) rfl) rfl<|es (ra6 rfl rfl rfl rfl rfl rfl)<|s0<|A0 (D1 rfl rfl rfl) rfl<|B1s (A54 (rs:=[.b w.isLeft]) rfl rfl (A5 rfl (A5 rfl B9)) hcc rfl) rfl<|A0 (A5t rfl) rfl<|es (ra6 rfl rfl rfl rfl rfl rfl) ?_
    ·exact Nat.add_le_add_left (by decide) _
    have hlx:∀(z:σ ⊕ ρ) (q:Ar5 Int),(Hm z++L0 (Hm (.inl x.2)).length b1 bt y x.1 q).take ((Hm (.inl x.2)).length + 2) = Hm z++L1 bt y:=fun z q=>by
     rw [← hN z,List.take_append,List.take_of_length_le (Nat.le_add_right _ _),Nat.add_sub_cancel_left]; rfl
    cases w with
    | inl s1 =>
     refine V8 rfl rfl<|C6<|r0<|A0 (I1 rfl rfl) rfl<|qm rfl<|en (ra5 rfl rfl rfl rfl rfl) ?_
     cases hb
     exact ⟨rfl,su5 rfl rfl rfl rfl rfl,(),hlx _ _⟩
    | inr r =>
     refine I3 rfl rfl<|C4 ?_
     cases hb
     exact ⟨rfl,_,Sub.refl _,rfl,hlx _ _⟩
   ·refine J0 ?_
    cases hb
    exact ⟨rfl,_,Sub.refl _,rfl,rfl⟩
  ·intro e2 s' H' q
   obtain ⟨_,q⟩:=q
   rcases z with r | s1
   ·obtain ⟨rfl,q⟩:=q
    cases ho
    show B35 _ _ _ _ .ret _ _
    refine B9l trivial rfl rfl rfl ?_
    have h2:=congrArg (List.take (Hm (.inl a0)).length) q
    rw [htk,List.take_take,Nat.min_eq_left (by omega)] at h2
    exact h2
   ·obtain ⟨rfl,rfl⟩:=q
    cases ho
    show B35 _ _ _ _ .normal _ _
    exact B9l trivial rfl rfl rfl (htk _)
 rw [List.append_nil] at key
 exact key
end
end Rm
end
section
set_option maxRecDepth 100000
set_option maxHeartbeats 0
namespace Rm
open Go Am Go.Proofs.YtbheamjhjgoccaaDoor.Cd
def A4m (a0:RoHouse) (x4:room_plan) (s5:(Int × room_plan)):Option ((Int × room_plan) ⊕ Unit) :=
 (X3 (room_house.mk a0) x4.at_).bind fun x6 =>
 if (decide (x6 > s5.1)) = true then
  some (.inl (x6,x4))
 else
  some (.inl (s5.1,s5.2))
def A8e (vo8_9:(Int × room_plan)) (x12:(List Int)) (s13:(Int × (List Int))):Option ((Int × (List Int)) ⊕ (List Int)) :=
 if (decide (s13.1 < (List.length (cpy x12 (Ar5.l vo8_9.2.at_)):Int))) = true then
  (idx s13.2 s13.1).bind fun x16 =>
  (idx s13.2 s13.1).bind fun x17 =>
  some (.inl ((w64 (s13.1 + 1)),(A97 s13.2 s13.1 (w64 (x16 - 1)))))
 else
  some (.inr s13.2)
def A30 (a0:RoHouse):Option (RoPlan × Int × Int) :=
 (Q5 a0).bind fun x1 =>
 if (x1.2.2 != 0) = true then
  some ((RoPlan.mk 0 ([]:List Int)),0,x1.2.2)
 else
  (A77 (room_house.mk a0) (Int × room_plan) Unit (A4m a0) ((-1),(room_plan.mk 0 (Ar5.mk 0 0 0 0 0)))).bind fun (o8:((Int × room_plan) ⊕ Unit)) =>
  match o8 with
  | (.inl vo8_9) =>
  if (decide (vo8_9.1 < 0)) = true then
   some ((RoPlan.mk 0 ([]:List Int)),0,9)
  else
   (B8f 8 (List.length a0.Figures:Int) 0).bind fun x12 =>
   (loop (A8e vo8_9 x12) (0,(cpy x12 (Ar5.l vo8_9.2.at_)))).bind fun (o18:(List Int)) =>
   some ((RoPlan.mk vo8_9.2.lit_ o18),vo8_9.1,0)
  | (.inr _)=>none
theorem B2p {c:Sc} {H:A3} (hscv:U7 c H = true) (hcl:clH H.length H = true) {a0:RoHouse} {r:(RoPlan × Int × Int)} (h:A30 a0 = some r) :
  A08 tab c H (.fn (.func 31) [] []) [(.agg (A6 a0))] [(.agg (B8 r.1)),.i r.2.1,.i r.2.2]:= by
 unfold A30 at h
 refine cF rfl rfl<|sg 0 rfl<|A0 (G2 (cs:=A6 a0) rfl rfl rfl) rfl<|A0 D2 rfl<|A0 D2 rfl<|qm rfl<|es (ra3 rfl rfl rfl)<|sg 3 rfl<|A0 (C5 rfl rfl rfl) rfl<|L5 (as2:=[(.agg (A6 a0))]) (H1:=(H++[(.cells (A6 a0)),(.cells (B8 (RoPlan.mk 0 ([]:List Int)))),(.cells (cI 0)),.dead])) rfl rfl (A5 (D9 rfl) B9) rfl rfl rfl (O7 rfl)<|sg 4 rfl<|A0 (G2 (cs:=A6 a0) rfl rfl rfl) rfl<|qm rfl<|qm rfl<|es (ra1 rfl)<|s0<|oB h fun x1 hx1 h=>A0 (C5 rfl rfl rfl) rfl<|C2 (rs:=[.i x1.1,.i x1.2.1,.i x1.2.2]) rfl rfl (A5 (D9 rfl) B9) ((O2 hx1).frz)<|qm rfl<|A0 (A7 rfl rfl) rfl<|A0 (A7 rfl rfl) rfl<|A0 (A7 rfl rfl) rfl<|qm rfl<|qm rfl<|qm rfl<|es (ra2 rfl rfl)<|sg 5 rfl<|A0 (C5 rfl rfl rfl) rfl<|A0 (F2 (cs:=[.b false,(.fn (.func 112) [] [])]) rfl rfl) rfl<|A0 (F2 (cs:=[.b true,(.fn (.func 113) [] [])]) rfl rfl) rfl<|A0 (A1y (rows:=[[.b false,(.fn (.func 112) [] [])],[.b true,(.fn (.func 113) [] [])]]) rfl rfl) rfl<|A0 (F2 (cs:=[.i a0.Weather.Lo,.i a0.Weather.Hi,.i a0.Stoves,(.seq 1 (List.map cI a0.Holds)),(.seq 4 (List.map B5 a0.Places)),(.seq 6 (List.map B2 a0.Figures)),(.seq 1 (List.map cI a0.Bill)),(.xseq 2 [[.b false,(.fn (.func 112) [] [])],[.b true,(.fn (.func 113) [] [])]])]) rfl rfl) rfl<|A0 (G2 (cs:=[.i a0.Weather.Lo,.i a0.Weather.Hi,.i a0.Stoves,(.seq 1 (List.map cI a0.Holds)),(.seq 4 (List.map B5 a0.Places)),(.seq 6 (List.map B2 a0.Figures)),(.seq 1 (List.map cI a0.Bill)),(.xseq 2 [[.b false,(.fn (.func 112) [] [])],[.b true,(.fn (.func 113) [] [])]])]) rfl rfl rfl) rfl<|qm rfl<|qm rfl<|qm rfl<|es (ra2 rfl rfl)<|C4<|InlQ.mk trivial ⟨_,_,_,[(.ptr (H.length + 5) 0),.i x1.2.2],_,(A9 rfl (A9 rfl B7)),(A4 rfl (A4 rfl B6)),(P6 (K1 (P4 rfl)) (C0 rfl (C0 rfl G3))),?_⟩
 refine qm rfl<|A0 (A7 rfl rfl) rfl<|A0 (A7 rfl rfl) rfl<|A0 D2 rfl<|E4 (C1 (ds:=[(.ptr (H.length + 5) 0)]) rfl rfl rfl rfl (A21 (Nat.le_add_right _ _)) rfl) rfl<|qm rfl<|es (ra5 rfl rfl rfl rfl rfl)<|C3<|s0<|qm rfl<|A0 (M7 rfl rfl) rfl<|es (ra6 rfl rfl rfl rfl rfl rfl)<|wi h rfl (fun hc2 h=>?_) fun hc2 h=>?_
 ·refine s0<|A0 (C5 rfl rfl rfl) rfl<|qm rfl<|E4 (C1 (ds:=(B8 (RoPlan.mk 0 ([]:List Int)))) rfl rfl rfl rfl (B3 rfl) rfl) rfl<|E4 (C1 (ds:=(cI 0)) rfl rfl rfl rfl (B3 rfl) rfl) rfl<|qm rfl<|es (ra3 rfl rfl rfl)<|C4 ?_
  obtain rfl:=os h
  refine Exists.intro [(.agg (B8 (RoPlan.mk 0 ([]:List Int)))),.i 0,.i x1.2.2] (And.intro ?_ rfl)
  exact retq trivial (E5 (E2 (ds:=B8 (RoPlan.mk 0 ([]:List Int))) rfl rfl rfl rfl) (E5 (D1 (x:=(.i 0)) rfl rfl rfl) (A9 rfl B7))) (A4 (H9 rfl) (A4 rfl (A4 rfl B6))) (A2 (F9 rfl) (A2 A8 (A2 A8 B1)))
 ·refine C6<|s0<|E4 (C1 (ds:=(cI (-1))) rfl rfl rfl rfl (B3 rfl) rfl) rfl<|es (ra4 rfl rfl rfl rfl)<|sg 6 rfl<|A0 D2 rfl<|es (ra5 rfl rfl rfl rfl rfl)<|C3<|s0<|A0 (D1 (x:=(.ptr (H.length + 5) 0)) rfl rfl rfl) rfl<|L5 (as2:=[(.ptr (H.length + 5) 0)]) (H1:=(H++[(.cells (A6 a0)),(.cells (B8 (RoPlan.mk 0 ([]:List Int)))),(.cells (cI (-1))),(.cells [(.ptr (H.length + 5) 0)]),(.cells (A6 a0)),(.cells [.i a0.Weather.Lo,.i a0.Weather.Hi,.i a0.Stoves,(.seq 1 (List.map cI a0.Holds)),(.seq 4 (List.map B5 a0.Places)),(.seq 6 (List.map B2 a0.Figures)),(.seq 1 (List.map cI a0.Bill)),(.xseq 2 [[.b false,(.fn (.func 112) [] [])],[.b true,(.fn (.func 113) [] [])]])]),(.cells (A1 (room_plan.mk 0 (Ar5.mk 0 0 0 0 0))))])) rfl rfl (A5 rfl B9) rfl rfl rfl (O7 rfl)<|sg 7 rfl<|A0 (G2 (cs:=[(.ptr (H.length + 5) 0)]) rfl rfl rfl) rfl<|qm rfl<|es (ra1 rfl)<|s0<|A0 (A1m rfl rfl) rfl<|qm rfl<|es (ra1 rfl)<|C4<|InlQ.mk trivial ⟨_,_,_,[(.fn (.func 116) [] [(.ptr (H.length + 7) 0)])],_,(A9 rfl B7),(A4 rfl B6),(P6 (K1 (B0n (K1 (P4 rfl)))) (C0 rfl G3)),?_⟩
  refine es (ra6 rfl rfl rfl rfl rfl rfl)<|D0<|oB h fun o8 ho8 h=>B4u (σ:=(Int × room_plan)) (ρ:=Unit) (k:=8) (ea:=(fun (x4:room_plan)=>(.agg (A1 x4)))) (body:=(A4m a0)) (pre:=fun H1=>hcells H1 (H.length + 7) = some [.ptr (H.length + 5) 0]∧hcells H1 (H.length + 5) = some (A8z (room_house.mk a0))) (B1u (t:=(room_house.mk a0)) (b1:=H.length + 7) (bt:=(H.length + 5))) A50 [(3,(.ptr (H.length + 2) 0)),(5,(.ptr (H.length + 3) 0)),(6,(.ptr (H.length + 6) 0))] (fun s5=>[(.cells (A6 a0)),(.cells (B8 (RoPlan.mk 0 ([]:List Int)))),(.cells (cI s5.1)),(.cells [(.ptr (H.length + 5) 0)]),(.cells (A6 a0)),(.cells [.i a0.Weather.Lo,.i a0.Weather.Hi,.i a0.Stoves,(.seq 1 (List.map cI a0.Holds)),(.seq 4 (List.map B5 a0.Places)),(.seq 6 (List.map B2 a0.Figures)),(.seq 1 (List.map cI a0.Bill)),(.xseq 2 [[.b false,(.fn (.func 112) [] [])],[.b true,(.fn (.func 113) [] [])]])]),(.cells (A1 s5.2)),(.cells [(.ptr (H.length + 5) 0)])]) (fun (_:Unit)=>[(.cells (A6 a0)),(.cells (B8 (RoPlan.mk 0 ([]:List Int)))),(.cells (cI (-1))),(.cells [(.ptr (H.length + 5) 0)]),(.cells (A6 a0)),(.cells [.i a0.Weather.Lo,.i a0.Weather.Hi,.i a0.Stoves,(.seq 1 (List.map cI a0.Holds)),(.seq 4 (List.map B5 a0.Places)),(.seq 6 (List.map B2 a0.Figures)),(.seq 1 (List.map cI a0.Bill)),(.xseq 2 [[.b false,(.fn (.func 112) [] [])],[.b true,(.fn (.func 113) [] [])]])]),(.cells (A1 (room_plan.mk 0 (Ar5.mk 0 0 0 0 0)))),(.cells [(.ptr (H.length + 5) 0)])]) (fun _=>.ret) ho8 (fun _=>rfl) rfl (fun S hS=>M0 (live:=[3,5,6]) rfl (by decide) (Sub.trans (su3 rfl rfl rfl) hS)) rfl (fun _=>rfl) (fun _=>rfl) hcl (by rw [Bool.and_eq_true,Bool.and_eq_true]; exact ⟨⟨by kernel_rfl,by kernel_rfl⟩,(by simp [clH,clS,AO.cl,AV.cl,clL,clM,clR,W6,A6a,A6b,A0f,J8,cI,cB,cS,G5,freeL,AV.free,freeR,Nat.blt,M8,Y8,G8,P0,F7,N1,H8,O9,K7,R1,G9,L9] <;> omega)⟩) (fun _=>(by simp [clH,clS,AO.cl,AV.cl,clL,clM,clR,W6,A6a,A6b,A0f,J8,cI,cB,cS,G5,freeL,AV.free,freeR,Nat.blt,M8,Y8,G8,P0,F7,N1,H8,O9,K7,R1,G9,L9] <;> omega)) (fun _=>(by simp [clH,clS,AO.cl,AV.cl,clL,clM,clR,W6,A6a,A6b,A0f,J8,cI,cB,cS,G5,freeL,AV.free,freeR,Nat.blt,M8,Y8,G8,P0,F7,N1,H8,O9,K7,R1,G9,L9] <;> omega)) (fun _=>(by simp [clH,clS,AO.cl,AV.cl,clL,clM,clR,W6,A6a,A6b,A0f,J8,cI,cB,cS,G5,freeL,AV.free,freeR,Nat.blt,M8,Y8,G8,P0,F7,N1,H8,O9,K7,R1,G9,L9] <;> omega)) ⟨fun _ _=>(And.intro (D5 rfl) (D5 rfl)),fun _ _=>(And.intro (D5 rfl) (D5 rfl))⟩ (B16 hscv) (fun c x4 s5 o hs5 y0_8 y1_8=>?_) ?_
  ·unfold A4m at hs5
   refine rg 9 rfl<|A0 D2 rfl<|E4 (C1 (ds:=(A1 x4)) rfl rfl rfl rfl (B3 rfl) rfl) rfl<|en (ra4 rfl rfl rfl rfl)<|⟨_,rfl,rfl,rfl,?_⟩
   refine D0<|s0<|oB hs5 fun x6 hx6 hs5=>A0 (D1 (x:=(.ptr (H.length + 5) 0)) rfl rfl rfl) rfl<|A0 (C9 rfl) rfl<|A0 (E2 (ds:=(J8 cI) x4.at_) rfl rfl rfl rfl) rfl<|C2 (rs:=[.i x6]) rfl rfl (A5 rfl (A5 (D9 rfl) B9)) ((A1t (D5 rfl) hx6).frz)<|qm rfl<|es (ra4 rfl rfl rfl rfl)<|s0<|qm rfl<|A0 (D1 rfl rfl rfl) rfl<|A0 (A09 rfl rfl) rfl<|es (ra5 rfl rfl rfl rfl rfl)<|wi hs5 rfl (fun hc7 hs5=>?_) fun hc7 hs5=>?_
   ·refine r0<|A0 (C5 rfl rfl rfl) rfl<|qm rfl<|E4 (C1 (ds:=(A1 x4)) rfl rfl rfl rfl (B3 rfl) rfl) rfl<|E4 (C1 (ds:=(cI x6)) rfl rfl rfl rfl (B3 rfl) rfl) rfl<|en .n ?_
    cases hs5
    exact ⟨_,rfl,rfl,rfl⟩
   ·refine C6 ?_
    cases hs5
    exact ⟨_,rfl,rfl,rfl⟩
  ·rcases o8 with vo8_9 | vo8_10
   ·refine C3<|s0<|A0 (D1 rfl rfl rfl) rfl<|A0 (L7 rfl rfl) rfl<|es (ra5 rfl rfl rfl rfl rfl)<|wi h rfl (fun hc11 h=>?_) fun hc11 h=>?_
    ·refine s0<|A0 (C5 rfl rfl rfl) rfl<|E4 (C1 (ds:=(B8 (RoPlan.mk 0 ([]:List Int)))) rfl rfl rfl rfl (B3 rfl) rfl) rfl<|E4 (C1 (ds:=(cI 0)) rfl rfl rfl rfl (B3 rfl) rfl) rfl<|qm rfl<|es (ra3 rfl rfl rfl)<|C4 ?_
     obtain rfl:=os h
     refine Exists.intro [(.agg (B8 (RoPlan.mk 0 ([]:List Int)))),.i 0,.i 9] (And.intro ?_ rfl)
     exact retq trivial (E5 (E2 (ds:=B8 (RoPlan.mk 0 ([]:List Int))) rfl rfl rfl rfl) (E5 (D1 (x:=(.i 0)) rfl rfl rfl) (A9 rfl B7))) (A4 (H9 rfl) (A4 rfl (A4 rfl B6))) (A2 (F9 rfl) (A2 A8 (A2 A8 B1)))
    ·refine C6<|sg 9 rfl<|oB h fun x12 hx12 h=>A0 (C9 rfl) rfl<|A0 (D1 rfl rfl rfl) rfl<|A0 (E9 (f:=B2) rfl) rfl<|A0 (B89 (f:=cI) rfl rfl rfl hx12) rfl<|qm rfl<|es (ra4 rfl rfl rfl rfl)<|s0<|qm rfl<|A0 (C9 rfl) rfl<|A0 (B9a rfl (D5 rfl) rfl) rfl<|B1s (C19 (f:=cI) rfl rfl rfl rfl (C3b (f:=cI) (e:=Ar5.l vo8_9.2.at_) (p:=5) (D5 rfl) rfl rfl (fun _=>rfl) rfl rfl) (fun _=>rfl)) rfl ?_
     rw [show List.length x12 = List.length (cpy x12 (Ar5.l vo8_9.2.at_)) from (B6w _ _).symm]
     refine es (ra4 rfl rfl rfl rfl)<|C3<|s0<|qm rfl<|A0 (C3v (f:=cI) rfl rfl rfl) rfl<|qm rfl<|es (ra6 rfl rfl rfl rfl rfl rfl)<|D0<|oB h fun o18 ho18 h=>wl (fun s13=>[(2,(.ptr (H.length + 1) 0)),(3,(.ptr (H.length + 2) 0)),(6,(.ptr (H.length + 6) 0)),(9,(.asl (H.length + 9) (List.length s13.2))),(44,(.i (List.length (cpy x12 (Ar5.l vo8_9.2.at_)):Int))),(45,.i s13.1)]) (fun (q14:Unit) s13=>[(.cells (A6 a0)),(.cells (B8 (RoPlan.mk 0 ([]:List Int)))),(.cells (cI vo8_9.1)),(.cells [(.ptr (H.length + 5) 0)]),(.cells (A6 a0)),(.cells [.i a0.Weather.Lo,.i a0.Weather.Hi,.i a0.Stoves,(.seq 1 (List.map cI a0.Holds)),(.seq 4 (List.map B5 a0.Places)),(.seq 6 (List.map B2 a0.Figures)),(.seq 1 (List.map cI a0.Bill)),(.xseq 2 [[.b false,(.fn (.func 112) [] [])],[.b true,(.fn (.func 113) [] [])]])]),(.cells (A1 vo8_9.2)),(.cells [(.ptr (H.length + 5) 0)]),.dead,(.arr 1 false (List.map cI s13.2))]) 10 (fun r e s' H'=>PX 2 [(2,(.ptr (H.length + 1) 0)),(3,(.ptr (H.length + 2) 0)),(6,(.ptr (H.length + 6) 0)),(9,(.asl (H.length + 9) (List.length r)))] (H++[(.cells (A6 a0)),(.cells (B8 (RoPlan.mk 0 ([]:List Int)))),(.cells (cI vo8_9.1)),(.cells [(.ptr (H.length + 5) 0)]),(.cells (A6 a0)),(.cells [.i a0.Weather.Lo,.i a0.Weather.Hi,.i a0.Stoves,(.seq 1 (List.map cI a0.Holds)),(.seq 4 (List.map B5 a0.Places)),(.seq 6 (List.map B2 a0.Figures)),(.seq 1 (List.map cI a0.Bill)),(.xseq 2 [[.b false,(.fn (.func 112) [] [])],[.b true,(.fn (.func 113) [] [])]])]),(.cells (A1 vo8_9.2)),(.cells [(.ptr (H.length + 5) 0)]),.dead,(.arr 1 false (List.map cI r))]) e s' H') () ho18 rfl rfl (fun _ _=>rfl) (fun _=>rfl) rfl (fun s13=>(bdc (G4 rfl) (bdc (G4 rfl) (bdc (G4 rfl) (bdc (B6q rfl) (bdc A8 (bdc A8 bdn))))))) (fun q14 s13 ys13 hs13=>?_) ?_
     ·unfold A8e at hs13
      refine s0<|A0 (L7 rfl rfl) rfl<|es (ra7 rfl rfl rfl rfl rfl rfl rfl)<|C3<|wi hs13 rfl (fun hc15 hs13=>?_) fun hc15 hs13=>?_
      ·refine C6<|C3<|D0<|s0<|qm rfl<|qm rfl<|es (ra7 rfl rfl rfl rfl rfl rfl rfl)<|r0<|oB hs13 fun x16 hx16 hs13=>oB hs13 fun x17 hx17 hs13=>qm rfl<|qm rfl<|A0 (C0w (f:=cI) rfl rfl rfl rfl hx16) rfl<|A0 (C2d (x:=(.i x16)) rfl rfl (List.length_map _) (C1l hx16) rfl) rfl<|A0 (Y2 rfl rfl) rfl<|A0 (C0w (f:=cI) rfl rfl rfl rfl hx17) rfl<|E4 (C00 (ds:=cI (w64 (x16 - 1))) rfl rfl rfl rfl rfl (List.length_map _) (C1l hx17) rfl rfl) rfl ?_
       rw [C0r]
       rw [show List.length s13.2 = List.length (A97 s13.2 s13.1 (w64 (x16 - 1))) from (B6b _ _ _).symm]
       refine en (ra6 rfl rfl rfl rfl rfl rfl)<|r0<|A0 (I1 rfl rfl) rfl<|qm rfl<|en (ra6 rfl rfl rfl rfl rfl rfl) ?_
       cases hs13
       exact lnT () rfl (su6 rfl rfl rfl rfl rfl rfl)
      ·refine J0 ?_
       obtain rfl:=os hs13
       exact lx rfl px (su4 rfl rfl rfl rfl)
     ·rintro e s' H' - ⟨rfl,rfl,rfl⟩
      refine s0<|A0 (C9 rfl) rfl<|A0 (D1 rfl rfl rfl) rfl<|qm rfl<|A0 (F2 (cs:=[.i vo8_9.2.lit_,(.asl (H.length + 9) (List.length o18))]) rfl rfl) rfl<|B4r [2] [(.cells (A6 a0)),(.cells [.i vo8_9.2.lit_,(.asl (H.length + 9) (List.length o18))]),(.cells (cI vo8_9.1)),(.cells [(.ptr (H.length + 5) 0)]),(.cells (A6 a0)),(.cells [.i a0.Weather.Lo,.i a0.Weather.Hi,.i a0.Stoves,(.seq 1 (List.map cI a0.Holds)),(.seq 4 (List.map B5 a0.Places)),(.seq 6 (List.map B2 a0.Figures)),(.seq 1 (List.map cI a0.Bill)),(.xseq 2 [[.b false,(.fn (.func 112) [] [])],[.b true,(.fn (.func 113) [] [])]])]),(.cells (A1 vo8_9.2)),(.cells [(.ptr (H.length + 5) 0)]),.dead,(.arr 1 false (List.map cI o18))] (A1q [] rfl (A36 rfl A2d O5) rfl rfl) (seen0 rfl) (C1 (ds:=[.i vo8_9.2.lit_,(.asl (H.length + 9) (List.length o18))]) rfl rfl rfl rfl (A21 (Nat.le_add_right _ _)) rfl) rfl rfl rfl<|Z2 [] (A1q [] rfl O5 rfl rfl) (A8i (b:=H.length + 2) rfl (A34 (A0g _ rfl) A5q)) (D1 rfl rfl rfl) rfl<|E4 (C1 (ds:=(cI vo8_9.1)) rfl rfl rfl rfl (B3 rfl) rfl) rfl<|qm rfl<|es (ra3 rfl rfl rfl)<|C4 ?_
      obtain rfl:=os h
      refine Exists.intro [(.agg [.i vo8_9.2.lit_,(.fresh 1 (List.map cI o18))]),.i vo8_9.1,.i 0] (And.intro ?_ rfl)
      exact retq trivial (E5 (E2 (ds:=[.i vo8_9.2.lit_,(.asl (H.length + 9) (List.length o18))]) rfl rfl rfl rfl) (E5 (D1 (x:=(.i vo8_9.1)) rfl rfl rfl) (A9 rfl B7))) (A4 (C2p (B8k rfl (B8k (C30 rfl (List.length_map _)) C3z))) (A4 rfl (A4 rfl B6))) (A2 (F9 rfl) (A2 A8 (A2 A8 B1)))
   ·cases h
theorem A71 {c:Sc} {H:A3} (hscv:U7 c H = true) {a0:RoHouse} {r:(RoPlan × Int × Int)} (h:A30 a0 = some r) :
  A08 tab c H (.fn (.func 31) [] []) [(.agg (A6 a0))] [(.agg (B8 r.1)),.i r.2.1,.i r.2.2]:=B45 A50 (B2p (c:=⟨0,[]⟩) (H:=[]) rfl rfl h) (by simp [freeL,AV.free,G5,cI,cB,cS,A6a,A6b,A0f,J8,M8,G8,F7,H8,K7,G9]) (by simp [freeL,AV.free,G5,cI,cB,cS,A6a,A6b,A0f,J8,M8,G8,F7,H8,K7,G9]) hscv
def X1 (a0:room_house) (a1:Int) (a2:Int):Option Int :=
 (I2 0 (w64 ((List.length a0.RoHouse.Places:Int) - 1)) [a1]).bind fun x1 =>
 if x1 = true then
  some 4
 else
  (B18 .i64 1 a0.RoHouse.Stoves).bind fun x3 =>
  (I2 0 (w64 (x3 - 1)) [a2]).bind fun x4 =>
  if x4 = true then
  some 7
  else
  some 0
theorem A1r {c:Sc} {H:A3} {a0:room_house} {b0:Nat} (hb0:hcells H b0 = some [.i a0.RoHouse.Weather.Lo,.i a0.RoHouse.Weather.Hi,.i a0.RoHouse.Stoves,(.seq 1 (List.map cI a0.RoHouse.Holds)),(.seq 4 (List.map B5 a0.RoHouse.Places)),(.seq 6 (List.map B2 a0.RoHouse.Figures)),(.seq 1 (List.map cI a0.RoHouse.Bill)),(.xseq 2 [[.b false,(.fn (.func 112) [] [])],[.b true,(.fn (.func 113) [] [])]])]) {a1:Int} {a2:Int} {r:Int} (h:X1 a0 a1 a2 = some r) :
  E8 tab c H (.fn (.func 82) [] []) [.ptr b0 0,.i a1,.i a2] [.i r]:= by
 unfold X1 at h
 refine cE rfl rfl<|s0<|qm rfl<|es (ra3 rfl rfl rfl)<|C3<|D0<|s0<|oB h fun x1 hx1 h=>qm rfl<|A0 (N0 rfl rfl) rfl<|A0 (C9 rfl) rfl<|A0 (C9 rfl) rfl<|A0 (G6 (x:=(.seq 4 (List.map B5 a0.RoHouse.Places))) rfl hb0 rfl) rfl<|A0 (E9 (f:=B5) rfl) rfl<|A0 (Y2 rfl rfl) rfl<|qm rfl<|A0 (K3 (rows:=List.map cI [a1]) rfl rfl (E6 (fun _=>rfl) _)) rfl<|C2 (rs:=[.b x1]) rfl rfl (A5 rfl (A5 rfl (A5 rfl B9))) ((F3 hx1).frz)<|qm rfl<|es (ra3 rfl rfl rfl)<|wi h rfl (fun hc2 h=>?_) fun hc2 h=>?_
 ·refine s0<|qm rfl<|es (ra1 rfl)<|C4 ?_
  obtain rfl:=os h
  exact retq trivial (A9 rfl B7) (A4 rfl B6) (A2 A8 B1)
 ·refine s0<|oB h fun x3 hx3 h=>oB h fun x4 hx4 h=>qm rfl<|A0 (N0 rfl rfl) rfl<|A0 (C9 rfl) rfl<|A0 (C9 rfl) rfl<|A0 (G6 (x:=(.i a0.RoHouse.Stoves)) rfl hb0 rfl) rfl<|A0 (A70 rfl rfl hx3) rfl<|A0 (Y2 rfl rfl) rfl<|qm rfl<|A0 (K3 (rows:=List.map cI [a2]) rfl rfl (E6 (fun _=>rfl) _)) rfl<|C2 (rs:=[.b x4]) rfl rfl (A5 rfl (A5 rfl (A5 rfl B9))) ((F3 hx4).frz)<|qm rfl<|es (ra1 rfl)<|wi h rfl (fun hc5 h=>?_) fun hc5 h=>?_
  ·refine s0<|qm rfl<|es (ra1 rfl)<|C4 ?_
   obtain rfl:=os h
   exact retq trivial (A9 rfl B7) (A4 rfl B6) (A2 A8 B1)
  ·refine C6<|s0<|qm rfl<|es (ra1 rfl)<|C4 ?_
   obtain rfl:=os h
   exact retq trivial (A9 rfl B7) (A4 rfl B6) (A2 A8 B1)
def A31 (a0:RoHouse) (a1:Int) (a2:Int) (a3:Int):Option (Int × Int) :=
 (Q5 a0).bind fun x1 =>
 if (x1.2.2 != 0) = true then
  some (0,x1.2.2)
 else
  (I2 0 (w64 ((List.length a0.Figures:Int) - 1)) [a1]).bind fun x3 =>
  if x3 = true then
  some (0,4)
  else
  (X1 (room_house.mk a0) a2 a3).bind fun x5 =>
  if (x5 != 0) = true then
   some (0,x5)
  else
   (P1 (room_house.mk a0) a1 a2 a3).bind fun x7 =>
   some (x7,0)
theorem A4h {c:Sc} {H:A3} {a0:RoHouse} {a1:Int} {a2:Int} {a3:Int} {r:(Int × Int)} (h:A31 a0 a1 a2 a3 = some r) :
  E8 tab c H (.fn (.func 21) [] []) [(.agg (A6 a0)),.i a1,.i a2,.i a3] [.i r.1,.i r.2]:= by
 unfold A31 at h
 refine cE rfl rfl<|sg 0 rfl<|A0 (G2 (cs:=A6 a0) rfl rfl rfl) rfl<|qm rfl<|qm rfl<|es (ra4 rfl rfl rfl rfl)<|s0<|A0 (C5 rfl rfl rfl) rfl<|L5 (as2:=[(.agg (A6 a0))]) (H1:=(H++[(.cells (A6 a0))])) rfl rfl (A5 (D9 rfl) B9) rfl rfl rfl (O7 rfl)<|sg 1 rfl<|A0 (G2 (cs:=A6 a0) rfl rfl rfl) rfl<|qm rfl<|qm rfl<|es (ra1 rfl)<|s0<|oB h fun x1 hx1 h=>A0 (C5 rfl rfl rfl) rfl<|C2 (rs:=[.i x1.1,.i x1.2.1,.i x1.2.2]) rfl rfl (A5 (D9 rfl) B9) ((O2 hx1).frz)<|qm rfl<|A0 (A7 rfl rfl) rfl<|A0 (A7 rfl rfl) rfl<|A0 (A7 rfl rfl) rfl<|qm rfl<|qm rfl<|qm rfl<|es (ra2 rfl rfl)<|sg 2 rfl<|A0 (C5 rfl rfl rfl) rfl<|A0 (F2 (cs:=[.b false,(.fn (.func 112) [] [])]) rfl rfl) rfl<|A0 (F2 (cs:=[.b true,(.fn (.func 113) [] [])]) rfl rfl) rfl<|A0 (A1y (rows:=[[.b false,(.fn (.func 112) [] [])],[.b true,(.fn (.func 113) [] [])]]) rfl rfl) rfl<|A0 (F2 (cs:=[.i a0.Weather.Lo,.i a0.Weather.Hi,.i a0.Stoves,(.seq 1 (List.map cI a0.Holds)),(.seq 4 (List.map B5 a0.Places)),(.seq 6 (List.map B2 a0.Figures)),(.seq 1 (List.map cI a0.Bill)),(.xseq 2 [[.b false,(.fn (.func 112) [] [])],[.b true,(.fn (.func 113) [] [])]])]) rfl rfl) rfl<|A0 (G2 (cs:=[.i a0.Weather.Lo,.i a0.Weather.Hi,.i a0.Stoves,(.seq 1 (List.map cI a0.Holds)),(.seq 4 (List.map B5 a0.Places)),(.seq 6 (List.map B2 a0.Figures)),(.seq 1 (List.map cI a0.Bill)),(.xseq 2 [[.b false,(.fn (.func 112) [] [])],[.b true,(.fn (.func 113) [] [])]])]) rfl rfl rfl) rfl<|qm rfl<|qm rfl<|qm rfl<|es (ra2 rfl rfl)<|C4<|InlQ.mk trivial ⟨_,_,_,[(.ptr (H.length + 2) 0),.i x1.2.2],_,(A9 rfl (A9 rfl B7)),(A4 rfl (A4 rfl B6)),(P6 (K1 (P4 rfl)) (C0 rfl (C0 rfl G3))),?_⟩
 refine qm rfl<|A0 (A7 rfl rfl) rfl<|A0 (A7 rfl rfl) rfl<|qm rfl<|qm rfl<|es (ra6 rfl rfl rfl rfl rfl rfl)<|C3<|D0<|s0<|qm rfl<|A0 (M7 rfl rfl) rfl<|qm rfl<|es (ra7 rfl rfl rfl rfl rfl rfl rfl)<|wi h rfl (fun hc2 h=>?_) fun hc2 h=>?_
 ·refine s0<|qm rfl<|qm rfl<|qm rfl<|es (ra2 rfl rfl)<|C4 ?_
  obtain rfl:=os h
  exact retq trivial (A9 rfl (A9 rfl B7)) (A4 rfl (A4 rfl B6)) (A2 A8 (A2 A8 B1))
 ·refine s0<|oB h fun x3 hx3 h=>A0 (C9 rfl) rfl<|A0 (D1 rfl rfl rfl) rfl<|A0 (E9 (f:=B2) rfl) rfl<|A0 (Y2 rfl rfl) rfl<|qm rfl<|A0 (K3 (rows:=List.map cI [a1]) rfl rfl (E6 (fun _=>rfl) _)) rfl<|C2 (rs:=[.b x3]) rfl rfl (A5 rfl (A5 rfl (A5 rfl B9))) ((F3 hx3).frz)<|qm rfl<|es (ra5 rfl rfl rfl rfl rfl)<|wi h rfl (fun hc4 h=>?_) fun hc4 h=>?_
  ·refine s0<|qm rfl<|qm rfl<|es (ra2 rfl rfl)<|C4 ?_
   obtain rfl:=os h
   exact retq trivial (A9 rfl (A9 rfl B7)) (A4 rfl (A4 rfl B6)) (A2 A8 (A2 A8 B1))
  ·refine C6<|C3<|s0<|oB h fun x5 hx5 h=>qm rfl<|qm rfl<|qm rfl<|C2 (rs:=[.i x5]) rfl rfl (A5 rfl (A5 rfl (A5 rfl B9))) ((A1r (D5 rfl) hx5).frz)<|qm rfl<|es (ra5 rfl rfl rfl rfl rfl)<|s0<|qm rfl<|A0 (M7 rfl rfl) rfl<|es (ra6 rfl rfl rfl rfl rfl rfl)<|wi h rfl (fun hc6 h=>?_) fun hc6 h=>?_
   ·refine s0<|qm rfl<|qm rfl<|qm rfl<|es (ra2 rfl rfl)<|C4 ?_
    obtain rfl:=os h
    exact retq trivial (A9 rfl (A9 rfl B7)) (A4 rfl (A4 rfl B6)) (A2 A8 (A2 A8 B1))
   ·refine C6<|s0<|oB h fun x7 hx7 h=>qm rfl<|qm rfl<|qm rfl<|qm rfl<|C2 (rs:=[.i x7]) rfl rfl (A5 rfl (A5 rfl (A5 rfl (A5 rfl B9)))) ((Q3 (D5 rfl) hx7).frz)<|qm rfl<|qm rfl<|es (ra2 rfl rfl)<|C4 ?_
    obtain rfl:=os h
    exact retq trivial (A9 rfl (A9 rfl B7)) (A4 rfl (A4 rfl B6)) (A2 A8 (A2 A8 B1))
def A0b (a0:(List Int)) (a1:Int) (s1:Int):Option (Int ⊕ (Int ⊕ Unit)) :=
 if (decide (s1 < (List.length a0:Int))) = true then
  (idx a0 s1).bind fun x4 =>
  if (a1 == x4) = true then
  some (.inr (.inl s1))
  else
  some (.inl (w64 (s1 + 1)))
 else
  some (.inr (.inr ()))
def W5 (a0:(List Int)) (a1:Int):Option Int :=
 (loop (A0b a0 a1) 0).bind fun (o6:(Int ⊕ Unit)) =>
 match o6 with
 | (.inl vo6_0) =>
  some vo6_0
 | (.inr vo6_1) =>
  some (-1)
theorem A3w {c:Sc} {H:A3} {a0:(List Int)} {a1:Int} {r:Int} (h:W5 a0 a1 = some r) :
  E8 tab c H (.fn (.func 124) [] []) [(.seq 1 (List.map cI a0)),.i a1] [.i r]:= by
 unfold W5 at h
 refine cE rfl rfl<|s0<|qm rfl<|es (ra2 rfl rfl)<|C3<|s0<|qm rfl<|A0 (E9 (f:=cI) rfl) rfl<|qm rfl<|es (ra4 rfl rfl rfl rfl)<|D0<|oB h fun o6 ho6 h=>wl (fun s1=>[(0,(.seq 1 (List.map cI a0))),(1,.i a1),(7,(.i (List.length a0:Int))),(8,.i s1)]) (fun (q2:Unit) s1=>[]) 0 (fun r e s' H'=>(match r with | (.inl v)=>e = .ret∧RetQ H [.tmp 4] [.i v] e s' H' | (.inr v)=>PX 0 [] (H++[]) e s' H':Prop)) () ho6 rfl rfl (fun _ _=>rfl) (fun _=>rfl) rfl (fun s1=>(bdc M4 (bdc A8 (bdc A8 (bdc A8 bdn))))) (fun q2 s1 ys1 hs1=>?_) ?_
 ·unfold A0b at hs1
  refine s0<|A0 (L7 rfl rfl) rfl<|es (ra5 rfl rfl rfl rfl rfl)<|C3<|wi hs1 rfl (fun hc3 hs1=>?_) fun hc3 hs1=>?_
  ·refine C6<|C3<|D0<|s0<|qm rfl<|qm rfl<|es (ra5 rfl rfl rfl rfl rfl)<|s0<|oB hs1 fun x4 hx4 hs1=>qm rfl<|qm rfl<|qm rfl<|A0 (N7 (f:=cI) rfl rfl hx4) rfl<|A0 (P7 rfl rfl) rfl<|A0 (J6 rfl rfl) rfl<|es (ra6 rfl rfl rfl rfl rfl rfl)<|wi hs1 rfl (fun hc5 hs1=>?_) fun hc5 hs1=>?_
   ·refine s0<|qm rfl<|qm rfl<|es (ra1 rfl)<|C4 ?_
    obtain rfl:=os hs1
    exact lx rfl (And.intro rfl (retq trivial (A9 rfl B7) (A4 rfl B6) (A2 A8 B1))) (Sub.refl _)
   ·refine C6<|r0<|A0 (I1 rfl rfl) rfl<|qm rfl<|en (ra4 rfl rfl rfl rfl) ?_
    cases hs1
    exact lnT () rfl (su4 rfl rfl rfl rfl)
  ·refine J0 ?_
   obtain rfl:=os hs1
   exact lx rfl px (.nil _)
 ·rcases o6 with vo6_0 | vo6_1
  ·rintro e s' H' - ⟨rfl,hret⟩
   cases h
   exact hret
  ·rintro e s' H' - ⟨rfl,rfl,rfl⟩
   refine s0<|qm rfl<|es (ra1 rfl)<|C4 ?_
   obtain rfl:=os h
   exact retq trivial (A9 rfl B7) (A4 rfl B6) (A2 A8 B1)
def M2 (a0:(List Int)) (a1:Int):Option Bool :=
 (W5 a0 a1).bind fun x1 =>
 some (decide (x1 ≥ 0))
theorem Q4 {c:Sc} {H:A3} {a0:(List Int)} {a1:Int} {r:Bool} (h:M2 a0 a1 = some r) :
  E8 tab c H (.fn (.func 114) [] []) [(.seq 1 (List.map cI a0)),.i a1] [.b r]:= by
 unfold M2 at h
 refine cE rfl rfl<|s0<|qm rfl<|es (ra2 rfl rfl)<|s0<|oB h fun x1 hx1 h=>qm rfl<|qm rfl<|C2 (rs:=[.i x1]) rfl rfl (A5 rfl (A5 rfl B9)) ((A3w hx1).frz)<|A0 (B0l rfl rfl) rfl<|qm rfl<|es (ra1 rfl)<|C4 ?_
 obtain rfl:=os h
 exact retq trivial (A9 rfl B7) (A4 rfl B6) (A2 A8 B1)
def A6p (a1:RoPlan) (s9:(Int × room_plan)):Option ((Int × room_plan) ⊕ (room_plan ⊕ Unit)) :=
 if (decide (s9.1 < (List.length a1.At:Int))) = true then
  (idx a1.At s9.1).bind fun x12 =>
  (if (x12 != (-1)) = true then
  (slc a1.At 0 s9.1).bind fun x14 =>
  (M2 x14 x12).bind fun x15 =>
  some x15
  else
  some false).bind fun x16 =>
  if x16 = true then
  some (.inr (.inr ()))
  else
  (idx (Ar5.l s9.2.at_) s9.1).bind fun x18 =>
  some (.inl ((w64 (s9.1 + 1)),(room_plan.mk s9.2.lit_ (Ar5.set s9.2.at_ s9.1 (w64 (x12 + 1))))))
 else
  some (.inr (.inl s9.2))
def A7a (a0:RoHouse) (a1:RoPlan):Option ((List Int) × Int) :=
 (Q5 a0).bind fun x1 =>
 if (x1.2.2 != 0) = true then
  some (([]:List Int),x1.2.2)
 else
  (B18 .i64 1 a0.Stoves).bind fun x3 =>
  (I2 0 (w64 (x3 - 1)) [a1.Lit]).bind fun x4 =>
  if x4 = true then
  some (([]:List Int),7)
  else
  if ((List.length a1.At:Int) != (List.length a0.Figures:Int)) = true then
   some (([]:List Int),3)
  else
   (I2 (-1) (w64 ((List.length a0.Places:Int) - 1)) a1.At).bind fun x7 =>
   if x7 = true then
   some (([]:List Int),4)
   else
   (loop (A6p a1) (0,(room_plan.mk a1.Lit (Ar5.mk 0 0 0 0 0)))).bind fun (o19:(room_plan ⊕ Unit)) =>
   match o19 with
   | (.inl vo19_0) =>
    (X2 (room_house.mk a0) vo19_0.at_).bind fun x20 =>
    (slc (Ar4.l x20) 0 (List.length a0.Holds:Int)).bind fun x21 =>
    (app 8 ([]:List Int) x21).bind fun x22 =>
    some (x22,0)
   | (.inr vo19_1) =>
    some (([]:List Int),5)
theorem B2q {c:Sc} {H:A3} {a0:RoHouse} {a1:RoPlan} {r:((List Int) × Int)} (h:A7a a0 a1 = some r) :
  E8 tab c H (.fn (.func 24) [] []) [(.agg (A6 a0)),(.agg (B8 a1))] [(.seq 1 (List.map cI r.1)),.i r.2]:= by
 unfold A7a at h
 refine cE rfl rfl<|sg 0 rfl<|A0 (G2 (cs:=A6 a0) rfl rfl rfl) rfl<|A0 (G2 (cs:=B8 a1) rfl rfl rfl) rfl<|qm rfl<|qm rfl<|es (ra2 rfl rfl)<|sg 2 rfl<|A0 (C5 rfl rfl rfl) rfl<|A0 (C5 rfl rfl rfl) rfl<|L5 (as2:=[(.agg (A6 a0)),(.agg (B8 a1))]) (H1:=(H++[(.cells (A6 a0)),(.cells (B8 a1)),.dead])) rfl rfl (A5 (D9 rfl) (A5 (D9 rfl) B9)) rfl rfl rfl (O7 rfl)<|sg 3 rfl<|A0 (G2 (cs:=A6 a0) rfl rfl rfl) rfl<|A0 (G2 (cs:=B8 a1) rfl rfl rfl) rfl<|qm rfl<|A0 D2 rfl<|qm rfl<|es (ra3 rfl rfl rfl)<|s0<|A0 (C5 rfl rfl rfl) rfl<|L5 (as2:=[(.agg (A6 a0))]) (H1:=(H++[(.cells (A6 a0)),(.cells (B8 a1)),.dead,(.cells (A6 a0)),(.cells (B8 a1)),(.cells (A1 (room_plan.mk 0 (Ar5.mk 0 0 0 0 0))))])) rfl rfl (A5 (D9 rfl) B9) rfl rfl rfl (O7 rfl)<|sg 6 rfl<|A0 (G2 (cs:=A6 a0) rfl rfl rfl) rfl<|qm rfl<|qm rfl<|es (ra1 rfl)<|s0<|oB h fun x1 hx1 h=>A0 (C5 rfl rfl rfl) rfl<|C2 (rs:=[.i x1.1,.i x1.2.1,.i x1.2.2]) rfl rfl (A5 (D9 rfl) B9) ((O2 hx1).frz)<|qm rfl<|A0 (A7 rfl rfl) rfl<|A0 (A7 rfl rfl) rfl<|A0 (A7 rfl rfl) rfl<|qm rfl<|qm rfl<|qm rfl<|es (ra2 rfl rfl)<|sg 7 rfl<|A0 (C5 rfl rfl rfl) rfl<|A0 (F2 (cs:=[.b false,(.fn (.func 112) [] [])]) rfl rfl) rfl<|A0 (F2 (cs:=[.b true,(.fn (.func 113) [] [])]) rfl rfl) rfl<|A0 (A1y (rows:=[[.b false,(.fn (.func 112) [] [])],[.b true,(.fn (.func 113) [] [])]]) rfl rfl) rfl<|A0 (F2 (cs:=[.i a0.Weather.Lo,.i a0.Weather.Hi,.i a0.Stoves,(.seq 1 (List.map cI a0.Holds)),(.seq 4 (List.map B5 a0.Places)),(.seq 6 (List.map B2 a0.Figures)),(.seq 1 (List.map cI a0.Bill)),(.xseq 2 [[.b false,(.fn (.func 112) [] [])],[.b true,(.fn (.func 113) [] [])]])]) rfl rfl) rfl<|A0 (G2 (cs:=[.i a0.Weather.Lo,.i a0.Weather.Hi,.i a0.Stoves,(.seq 1 (List.map cI a0.Holds)),(.seq 4 (List.map B5 a0.Places)),(.seq 6 (List.map B2 a0.Figures)),(.seq 1 (List.map cI a0.Bill)),(.xseq 2 [[.b false,(.fn (.func 112) [] [])],[.b true,(.fn (.func 113) [] [])]])]) rfl rfl rfl) rfl<|qm rfl<|qm rfl<|qm rfl<|es (ra2 rfl rfl)<|C4<|InlQ.mk trivial ⟨_,_,_,[(.ptr (H.length + 7) 0),.i x1.2.2],_,(A9 rfl (A9 rfl B7)),(A4 rfl (A4 rfl B6)),(P6 (K1 (P4 rfl)) (C0 rfl (C0 rfl G3))),?_⟩
 refine qm rfl<|A0 (A7 rfl rfl) rfl<|A0 (A7 rfl rfl) rfl<|qm rfl<|qm rfl<|es (ra5 rfl rfl rfl rfl rfl)<|C3<|D0<|s0<|qm rfl<|A0 (M7 rfl rfl) rfl<|qm rfl<|es (ra6 rfl rfl rfl rfl rfl rfl)<|wi h rfl (fun hc2 h=>?_) fun hc2 h=>?_
 ·refine s0<|A0 (C5 rfl rfl rfl) rfl<|qm rfl<|E4 (C1 (ds:=(A1 (room_plan.mk 0 (Ar5.mk 0 0 0 0 0)))) rfl rfl rfl rfl (B3 rfl) rfl) rfl<|qm rfl<|qm rfl<|es (ra3 rfl rfl rfl)<|C4<|InlQ.mk trivial ⟨_,_,_,[(.lit (.pointer none)),(.agg (A1 (room_plan.mk 0 (Ar5.mk 0 0 0 0 0)))),.i x1.2.2],_,(A9 rfl (E5 (E2 (ds:=A1 (room_plan.mk 0 (Ar5.mk 0 0 0 0 0))) rfl rfl rfl rfl) (A9 rfl B7))),(A4 rfl (A4 (H9 rfl) (A4 rfl B6))),(M5 (A2 A8 (A2 (F9 rfl) (A2 A8 B1))) (C0 rfl (C0 rfl (C0 rfl G3))) (F1 _ _ _)),?_⟩
  refine qm rfl<|A0 (A7 rfl rfl) rfl<|A0 (A7 rfl rfl) rfl<|A0 (A7 rfl rfl) rfl<|A0 D2 rfl<|qm rfl<|E4 (C1 (ds:=(A1 (room_plan.mk 0 (Ar5.mk 0 0 0 0 0)))) rfl rfl rfl rfl (B3 rfl) rfl) rfl<|qm rfl<|es (ra4 rfl rfl rfl rfl)<|C3<|s0<|qm rfl<|A0 (M7 rfl rfl) rfl<|es (ra5 rfl rfl rfl rfl rfl)<|I3 rfl hc2<|s0<|qm rfl<|qm rfl<|qm rfl<|es (ra2 rfl rfl)<|C4 ?_
  obtain rfl:=os h
  exact retq trivial (A9 rfl (A9 rfl B7)) (A4 rfl (A4 rfl B6)) (A2 M4 (A2 A8 B1))
 ·refine s0<|oB h fun x3 hx3 h=>oB h fun x4 hx4 h=>A0 (C9 rfl) rfl<|A0 (D1 rfl rfl rfl) rfl<|A0 (A70 rfl rfl hx3) rfl<|A0 (Y2 rfl rfl) rfl<|A0 (C9 rfl) rfl<|A0 (D1 rfl rfl rfl) rfl<|A0 (K3 (rows:=List.map cI [a1.Lit]) rfl rfl (E6 (fun _=>rfl) _)) rfl<|C2 (rs:=[.b x4]) rfl rfl (A5 rfl (A5 rfl (A5 rfl B9))) ((F3 hx4).frz)<|qm rfl<|es (ra5 rfl rfl rfl rfl rfl)<|wi h rfl (fun hc5 h=>?_) fun hc5 h=>?_
  ·refine s0<|A0 (C5 rfl rfl rfl) rfl<|qm rfl<|E4 (C1 (ds:=(A1 (room_plan.mk 0 (Ar5.mk 0 0 0 0 0)))) rfl rfl rfl rfl (B3 rfl) rfl) rfl<|qm rfl<|es (ra3 rfl rfl rfl)<|C4<|InlQ.mk trivial ⟨_,_,_,[(.lit (.pointer none)),(.agg (A1 (room_plan.mk 0 (Ar5.mk 0 0 0 0 0)))),.i 7],_,(A9 rfl (E5 (E2 (ds:=A1 (room_plan.mk 0 (Ar5.mk 0 0 0 0 0))) rfl rfl rfl rfl) (A9 rfl B7))),(A4 rfl (A4 (H9 rfl) (A4 rfl B6))),(M5 (A2 A8 (A2 (F9 rfl) (A2 A8 B1))) (C0 rfl (C0 rfl (C0 rfl G3))) (F1 _ _ _)),?_⟩
   refine qm rfl<|A0 (A7 rfl rfl) rfl<|A0 (A7 rfl rfl) rfl<|A0 (A7 rfl rfl) rfl<|A0 D2 rfl<|qm rfl<|E4 (C1 (ds:=(A1 (room_plan.mk 0 (Ar5.mk 0 0 0 0 0)))) rfl rfl rfl rfl (B3 rfl) rfl) rfl<|qm rfl<|es (ra4 rfl rfl rfl rfl)<|C3<|s0<|qm rfl<|A0 (F4 (v:=(.b true)) rfl rfl rfl) rfl<|es (ra5 rfl rfl rfl rfl rfl)<|I3 rfl rfl<|s0<|qm rfl<|qm rfl<|qm rfl<|es (ra2 rfl rfl)<|C4 ?_
   obtain rfl:=os h
   exact retq trivial (A9 rfl (A9 rfl B7)) (A4 rfl (A4 rfl B6)) (A2 M4 (A2 A8 B1))
  ·refine s0<|A0 (C9 rfl) rfl<|A0 (D1 rfl rfl rfl) rfl<|A0 (E9 (f:=cI) rfl) rfl<|A0 (C9 rfl) rfl<|A0 (D1 rfl rfl rfl) rfl<|A0 (E9 (f:=B2) rfl) rfl<|A0 (M7 rfl rfl) rfl<|qm rfl<|es (ra5 rfl rfl rfl rfl rfl)<|wi h rfl (fun hc6 h=>?_) fun hc6 h=>?_
   ·refine s0<|A0 (C5 rfl rfl rfl) rfl<|qm rfl<|E4 (C1 (ds:=(A1 (room_plan.mk 0 (Ar5.mk 0 0 0 0 0)))) rfl rfl rfl rfl (B3 rfl) rfl) rfl<|qm rfl<|es (ra3 rfl rfl rfl)<|C4<|InlQ.mk trivial ⟨_,_,_,[(.lit (.pointer none)),(.agg (A1 (room_plan.mk 0 (Ar5.mk 0 0 0 0 0)))),.i 3],_,(A9 rfl (E5 (E2 (ds:=A1 (room_plan.mk 0 (Ar5.mk 0 0 0 0 0))) rfl rfl rfl rfl) (A9 rfl B7))),(A4 rfl (A4 (H9 rfl) (A4 rfl B6))),(M5 (A2 A8 (A2 (F9 rfl) (A2 A8 B1))) (C0 rfl (C0 rfl (C0 rfl G3))) (F1 _ _ _)),?_⟩
    refine qm rfl<|A0 (A7 rfl rfl) rfl<|A0 (A7 rfl rfl) rfl<|A0 (A7 rfl rfl) rfl<|A0 D2 rfl<|qm rfl<|E4 (C1 (ds:=(A1 (room_plan.mk 0 (Ar5.mk 0 0 0 0 0)))) rfl rfl rfl rfl (B3 rfl) rfl) rfl<|qm rfl<|es (ra4 rfl rfl rfl rfl)<|C3<|s0<|qm rfl<|A0 (F4 (v:=(.b true)) rfl rfl rfl) rfl<|es (ra5 rfl rfl rfl rfl rfl)<|I3 rfl rfl<|s0<|qm rfl<|qm rfl<|qm rfl<|es (ra2 rfl rfl)<|C4 ?_
    obtain rfl:=os h
    exact retq trivial (A9 rfl (A9 rfl B7)) (A4 rfl (A4 rfl B6)) (A2 M4 (A2 A8 B1))
   ·refine s0<|oB h fun x7 hx7 h=>A0 (C9 rfl) rfl<|A0 (D1 rfl rfl rfl) rfl<|A0 (E9 (f:=B5) rfl) rfl<|A0 (Y2 rfl rfl) rfl<|A0 (C9 rfl) rfl<|A0 (D1 rfl rfl rfl) rfl<|C2 (rs:=[.b x7]) rfl rfl (A5 rfl (A5 rfl (A5 rfl B9))) ((F3 hx7).frz)<|qm rfl<|es (ra4 rfl rfl rfl rfl)<|wi h rfl (fun hc8 h=>?_) fun hc8 h=>?_
    ·refine s0<|A0 (C5 rfl rfl rfl) rfl<|qm rfl<|E4 (C1 (ds:=(A1 (room_plan.mk 0 (Ar5.mk 0 0 0 0 0)))) rfl rfl rfl rfl (B3 rfl) rfl) rfl<|qm rfl<|es (ra3 rfl rfl rfl)<|C4<|InlQ.mk trivial ⟨_,_,_,[(.lit (.pointer none)),(.agg (A1 (room_plan.mk 0 (Ar5.mk 0 0 0 0 0)))),.i 4],_,(A9 rfl (E5 (E2 (ds:=A1 (room_plan.mk 0 (Ar5.mk 0 0 0 0 0))) rfl rfl rfl rfl) (A9 rfl B7))),(A4 rfl (A4 (H9 rfl) (A4 rfl B6))),(M5 (A2 A8 (A2 (F9 rfl) (A2 A8 B1))) (C0 rfl (C0 rfl (C0 rfl G3))) (F1 _ _ _)),?_⟩
     refine qm rfl<|A0 (A7 rfl rfl) rfl<|A0 (A7 rfl rfl) rfl<|A0 (A7 rfl rfl) rfl<|A0 D2 rfl<|qm rfl<|E4 (C1 (ds:=(A1 (room_plan.mk 0 (Ar5.mk 0 0 0 0 0)))) rfl rfl rfl rfl (B3 rfl) rfl) rfl<|qm rfl<|es (ra4 rfl rfl rfl rfl)<|C3<|s0<|qm rfl<|A0 (F4 (v:=(.b true)) rfl rfl rfl) rfl<|es (ra5 rfl rfl rfl rfl rfl)<|I3 rfl rfl<|s0<|qm rfl<|qm rfl<|qm rfl<|es (ra2 rfl rfl)<|C4 ?_
     obtain rfl:=os h
     exact retq trivial (A9 rfl (A9 rfl B7)) (A4 rfl (A4 rfl B6)) (A2 M4 (A2 A8 B1))
    ·refine C6<|s0<|A0 (C9 rfl) rfl<|A0 (D1 rfl rfl rfl) rfl<|A0 (C9 rfl) rfl<|E4 (C1 (ds:=(A1 (room_plan.mk a1.Lit (Ar5.mk 0 0 0 0 0)))) rfl rfl rfl rfl (B3 rfl) rfl) rfl<|es (ra3 rfl rfl rfl)<|C3<|s0<|A0 (C9 rfl) rfl<|A0 (D1 rfl rfl rfl) rfl<|A0 (E9 (f:=cI) rfl) rfl<|qm rfl<|es (ra6 rfl rfl rfl rfl rfl rfl)<|D0<|oB h fun o19 ho19 h=>wl (fun s9=>[(3,(.ptr (H.length + 4) 0)),(4,(.ptr (H.length + 7) 0)),(5,(.ptr (H.length + 5) 0)),(51,(.seq 1 (List.map cI a1.At))),(52,(.i (List.length a1.At:Int))),(53,.i s9.1)]) (fun (q10:Unit) s9=>[(.cells (A6 a0)),(.cells (B8 a1)),.dead,(.cells (A6 a0)),(.cells (B8 a1)),(.cells (A1 s9.2)),(.cells (A6 a0)),(.cells [.i a0.Weather.Lo,.i a0.Weather.Hi,.i a0.Stoves,(.seq 1 (List.map cI a0.Holds)),(.seq 4 (List.map B5 a0.Places)),(.seq 6 (List.map B2 a0.Figures)),(.seq 1 (List.map cI a0.Bill)),(.xseq 2 [[.b false,(.fn (.func 112) [] [])],[.b true,(.fn (.func 113) [] [])]])])]) 8 (fun r e s' H'=>(match r with | (.inl v)=>PX 1 [(4,(.ptr (H.length + 7) 0)),(5,(.ptr (H.length + 5) 0))] (H++[(.cells (A6 a0)),(.cells (B8 a1)),.dead,(.cells (A6 a0)),(.cells (B8 a1)),(.cells (A1 v)),(.cells (A6 a0)),(.cells [.i a0.Weather.Lo,.i a0.Weather.Hi,.i a0.Stoves,(.seq 1 (List.map cI a0.Holds)),(.seq 4 (List.map B5 a0.Places)),(.seq 6 (List.map B2 a0.Figures)),(.seq 1 (List.map cI a0.Bill)),(.xseq 2 [[.b false,(.fn (.func 112) [] [])],[.b true,(.fn (.func 113) [] [])]])])]) e s' H' | (.inr v)=>e = .ret∧s' = [(4,(.lit (.pointer none))),(5,(.ptr (H.length + 5) 0)),(6,.i 5)]∧H' = (H++[(.cells (A6 a0)),(.cells (B8 a1)),.dead,(.cells (A6 a0)),(.cells (B8 a1)),(.cells (A1 (room_plan.mk 0 (Ar5.mk 0 0 0 0 0)))),(.cells (A6 a0)),(.cells [.i a0.Weather.Lo,.i a0.Weather.Hi,.i a0.Stoves,(.seq 1 (List.map cI a0.Holds)),(.seq 4 (List.map B5 a0.Places)),(.seq 6 (List.map B2 a0.Figures)),(.seq 1 (List.map cI a0.Bill)),(.xseq 2 [[.b false,(.fn (.func 112) [] [])],[.b true,(.fn (.func 113) [] [])]])])]):Prop)) () ho19 rfl rfl (fun _ _=>rfl) (fun _=>rfl) rfl (fun s9=>(bdc (G4 rfl) (bdc (G4 rfl) (bdc (G4 rfl) (bdc M4 (bdc A8 (bdc A8 bdn))))))) (fun q10 s9 ys9 hs9=>?_) ?_
     ·unfold A6p at hs9
      refine s0<|A0 (L7 rfl rfl) rfl<|es (ra7 rfl rfl rfl rfl rfl rfl rfl)<|C3<|wi hs9 rfl (fun hc11 hs9=>?_) fun hc11 hs9=>?_
      ·refine C6<|C3<|D0<|s0<|oB hs9 fun x12 hx12 hs9=>qm rfl<|A0 (N7 (f:=cI) rfl rfl hx12) rfl<|A0 (P7 rfl rfl) rfl<|qm rfl<|qm rfl<|es (ra8 rfl rfl rfl rfl rfl rfl rfl rfl)<|C3<|s0<|oB hs9 fun x16 hx16 hs9=>qm rfl<|A0 (M7 rfl rfl) rfl<|qm rfl<|gp 7 67 (.b x16) 60 rfl rfl (fun hg13=>?_) (fun hg13=>?_) ?_
       ·refine oB (bt hx16 hg13) fun x14 hx14 hx16=>oB hx16 fun x15 hx15 hx16=>?_
        obtain rfl:=os hx16
        exact gT rfl hg13<|A0 (C9 rfl) rfl<|gT rfl hg13<|A0 (D1 rfl rfl rfl) rfl<|gT rfl hg13<|qm rfl<|gT rfl hg13<|A0 (A5e (f:=cI) rfl rfl rfl hx14) rfl<|gT rfl hg13<|qm rfl<|gT rfl hg13<|C2 (rs:=[.b x15]) rfl rfl (A5 rfl (A5 rfl B9)) ((Q4 hx15).frz)<|A0 (D6 rfl hg13 rfl) rfl<|ge 7 rfl rfl rfl
       ·obtain rfl:=os (bf hx16 hg13)
        exact nT rfl hg13 rfl<|nT rfl hg13 rfl<|nT rfl hg13 rfl<|nT rfl hg13 rfl<|nT rfl hg13 rfl<|T4 (K9 rfl (by rw [hg13]; rfl)) rfl<|A0 (D7 rfl hg13 rfl) rfl<|ge 7 rfl rfl rfl
       refine es (ra9 rfl rfl rfl rfl rfl rfl rfl rfl rfl)<|wi hs9 rfl (fun hc17 hs9=>?_) fun hc17 hs9=>?_
       ·refine s0<|A0 (F2 (cs:=A1 (room_plan.mk 0 (Ar5.mk 0 0 0 0 0))) rfl rfl) rfl<|qm rfl<|E4 (C1 (ds:=(A1 (room_plan.mk 0 (Ar5.mk 0 0 0 0 0)))) rfl rfl rfl rfl (B3 rfl) rfl) rfl<|qm rfl<|es (ra3 rfl rfl rfl)<|C4 ?_
        obtain rfl:=os hs9
        exact lx rfl (And.intro rfl (And.intro rfl rfl)) (su3 rfl rfl rfl)
       ·refine C6<|r0<|oB hs9 fun x18 hx18 hs9=>qm rfl<|qm rfl<|A0 (I1 rfl rfl) rfl<|A0 (C9 rfl) rfl<|A0 (A3e (e:=Ar5.l s9.2.at_) rfl rfl rfl hx18) rfl<|E4 (A3t (f:=cI) (e:=Ar5.l s9.2.at_) (e2:=Ar5.l (Ar5.set s9.2.at_ s9.1 (w64 (x12 + 1)))) (z:=(w64 (x12 + 1))) (ds:=(A1 (room_plan.mk s9.2.lit_ (Ar5.set s9.2.at_ s9.1 (w64 (x12 + 1)))))) rfl rfl rfl rfl rfl rfl (fun _=>rfl) hx18 (Ar5.set_l hx18) rfl (B3 rfl)) rfl<|en (ra6 rfl rfl rfl rfl rfl rfl)<|r0<|A0 (I1 rfl rfl) rfl<|qm rfl<|en (ra6 rfl rfl rfl rfl rfl rfl) ?_
        cases hs9
        exact lnT () rfl (su6 rfl rfl rfl rfl rfl rfl)
      ·refine J0 ?_
       obtain rfl:=os hs9
       exact lx rfl px (su2 rfl rfl)
     ·rcases o19 with vo19_0 | vo19_1
      ·rintro e s' H' - ⟨rfl,rfl,rfl⟩
       refine s0<|qm rfl<|A0 (C5 rfl rfl rfl) rfl<|qm rfl<|E4 (C1 (ds:=(A1 vo19_0)) rfl rfl rfl rfl (B3 rfl) rfl) rfl<|qm rfl<|es (ra3 rfl rfl rfl)<|C4<|InlQ.mk trivial ⟨_,_,_,[(.ptr (H.length + 7) 0),(.agg (A1 vo19_0)),.i 0],_,(A9 rfl (E5 (E2 (ds:=A1 vo19_0) rfl rfl rfl rfl) (A9 rfl B7))),(A4 rfl (A4 (H9 rfl) (A4 rfl B6))),(P6 (K1 (P4 rfl)) (C0 rfl (C0 rfl (C0 rfl G3)))),?_⟩
       refine qm rfl<|A0 (A7 rfl rfl) rfl<|A0 (A7 rfl rfl) rfl<|A0 (A7 rfl rfl) rfl<|A0 D2 rfl<|qm rfl<|E4 (C1 (ds:=(A1 vo19_0)) rfl rfl rfl rfl (B3 rfl) rfl) rfl<|qm rfl<|es (ra4 rfl rfl rfl rfl)<|C3<|s0<|qm rfl<|A0 (F4 (v:=(.b false)) rfl rfl rfl) rfl<|es (ra5 rfl rfl rfl rfl rfl)<|V8 rfl rfl<|C6<|sg 8 rfl<|oB h fun x20 hx20 h=>qm rfl<|A0 (C9 rfl) rfl<|A0 (E2 (ds:=(J8 cI) vo19_0.at_) rfl rfl rfl rfl) rfl<|C2 (rs:=[(.agg ((A0f cI) x20))]) rfl rfl (A5 rfl (A5 (D9 rfl) B9)) ((A1s (D5 rfl) hx20).frz)<|A0 D2 rfl<|E4 (C1 (ds:=((A0f cI) x20)) rfl rfl rfl rfl (B3 rfl) rfl) rfl<|es (ra2 rfl rfl)<|s0<|oB h fun x21 hx21 h=>A0 (C9 rfl) rfl<|A0 (D1 rfl rfl rfl) rfl<|A0 (E9 (f:=cI) rfl) rfl<|A0 (C0z (e:=Ar4.l x20) (m':=x21) rfl (D5 rfl) rfl rfl rfl hx21) rfl<|L5 (as2:=[(.csl (H.length + 8) 0 1 (List.length x21))]) (H1:=(H++[(.cells (A6 a0)),(.cells (B8 a1)),(.cells (A1 vo19_0)),(.cells (A6 a0)),(.cells (B8 a1)),(.cells (A1 vo19_0)),(.cells (A6 a0)),(.cells [.i a0.Weather.Lo,.i a0.Weather.Hi,.i a0.Stoves,(.seq 1 (List.map cI a0.Holds)),(.seq 4 (List.map B5 a0.Places)),(.seq 6 (List.map B2 a0.Figures)),(.seq 1 (List.map cI a0.Bill)),(.xseq 2 [[.b false,(.fn (.func 112) [] [])],[.b true,(.fn (.func 113) [] [])]])]),(.cells ((A0f cI) x20))])) rfl rfl (A5 rfl B9) rfl rfl rfl (O7 rfl)<|s0<|qm rfl<|es (ra1 rfl)<|C3<|s0<|qm rfl<|A0 (C2i rfl) rfl<|es (ra2 rfl rfl)<|V8 rfl rfl<|C6<|sg 9 rfl<|oB h fun x22 hx22 h=>A0 (C2b (rows:=List.map cI []) rfl rfl (E6 (fun _=>rfl) _)) rfl<|qm rfl<|B1s (C18 (f:=cI) rfl rfl rfl rfl (C3b (f:=cI) (e:=Ar4.l x20) (p:=Int.toNat (List.length a0.Holds:Int)) (D5 rfl) rfl rfl (fun _=>rfl) (slc0 hx21) rfl) (fun _=>rfl) hx22) rfl<|qm rfl<|es (ra1 rfl)<|C4<|InlQ.mk trivial ⟨_,_,_,[(.seq 1 (List.map cI x22))],_,(A9 rfl B7),(A4 rfl B6),(M5 (A2 M4 B1) (C0 rfl G3) (F1 _ _ _)),?_⟩
       refine qm rfl<|qm rfl<|es (ra2 rfl rfl)<|C4 ?_
       obtain rfl:=os h
       exact retq trivial (A9 rfl (A9 rfl B7)) (A4 rfl (A4 rfl B6)) (A2 M4 (A2 A8 B1))
      ·rintro e s' H' - ⟨rfl,rfl,rfl⟩
       refine InlQ.mk trivial ⟨_,_,_,[(.lit (.pointer none)),(.agg (A1 (room_plan.mk 0 (Ar5.mk 0 0 0 0 0)))),.i 5],_,(A9 rfl (E5 (E2 (ds:=A1 (room_plan.mk 0 (Ar5.mk 0 0 0 0 0))) rfl rfl rfl rfl) (A9 rfl B7))),(A4 rfl (A4 (H9 rfl) (A4 rfl B6))),(M5 (A2 A8 (A2 (F9 rfl) (A2 A8 B1))) (C0 rfl (C0 rfl (C0 rfl G3))) (F1 _ _ _)),?_⟩
       refine qm rfl<|A0 (A7 rfl rfl) rfl<|A0 (A7 rfl rfl) rfl<|A0 (A7 rfl rfl) rfl<|A0 D2 rfl<|qm rfl<|E4 (C1 (ds:=(A1 (room_plan.mk 0 (Ar5.mk 0 0 0 0 0)))) rfl rfl rfl rfl (B3 rfl) rfl) rfl<|qm rfl<|es (ra4 rfl rfl rfl rfl)<|C3<|s0<|qm rfl<|A0 (F4 (v:=(.b true)) rfl rfl rfl) rfl<|es (ra5 rfl rfl rfl rfl rfl)<|I3 rfl rfl<|s0<|qm rfl<|qm rfl<|qm rfl<|es (ra2 rfl rfl)<|C4 ?_
       obtain rfl:=os h
       exact retq trivial (A9 rfl (A9 rfl B7)) (A4 rfl (A4 rfl B6)) (A2 M4 (A2 A8 B1))
def A5m (a1:RoPlan) (s9:(Int × room_plan)):Option ((Int × room_plan) ⊕ (room_plan ⊕ Unit)) :=
 if (decide (s9.1 < (List.length a1.At:Int))) = true then
  (idx a1.At s9.1).bind fun x12 =>
  (if (x12 != (-1)) = true then
  (slc a1.At 0 s9.1).bind fun x14 =>
  (M2 x14 x12).bind fun x15 =>
  some x15
  else
  some false).bind fun x16 =>
  if x16 = true then
  some (.inr (.inr ()))
  else
  (idx (Ar5.l s9.2.at_) s9.1).bind fun x18 =>
  some (.inl ((w64 (s9.1 + 1)),(room_plan.mk s9.2.lit_ (Ar5.set s9.2.at_ s9.1 (w64 (x12 + 1))))))
 else
  some (.inr (.inl s9.2))
def A5n (a0:RoHouse) (vo19_0:room_plan) (s20:Int):Option (Int ⊕ (Unit ⊕ Unit)) :=
 if (decide (s20 < 5)) = true then
  (idx (Ar5.l vo19_0.at_) s20).bind fun x23 =>
  (if (decide (x23 > 0)) = true then
  (P1 (room_house.mk a0) s20 (w64 (x23 - 1)) vo19_0.lit_).bind fun x25 =>
  some (x25 != 1)
  else
  some false).bind fun x26 =>
  if x26 = true then
  some (.inr (.inr ()))
  else
  some (.inl (w64 (s20 + 1)))
 else
  some (.inr (.inl ()))
def A5o (a0:RoHouse) (vo19_0:room_plan) (s31:(Int × Int × Int)):Option ((Int × Int × Int) ⊕ (Int × Int)) :=
 if (decide (s31.2.2 < 5)) = true then
  (idx (Ar5.l vo19_0.at_) s31.2.2).bind fun x34 =>
  if (x34 == 0) = true then
  some (.inl (s31.1,s31.2.1,(w64 (s31.2.2 + 1))))
  else
  (R8 (room_house.mk a0) (w64 (x34 - 1)) vo19_0.lit_).bind fun x36 =>
  (idx a0.Figures s31.2.2).bind fun x37 =>
  if ((decide (s31.1 < 0)) || (decide ((B2o (w64 (x36.Lo - x37.Cracks)) (w64 (x37.Slumps - x36.Hi))) < s31.2.1))) = true then
   some (.inl (s31.2.2,(B2o (w64 (x36.Lo - x37.Cracks)) (w64 (x37.Slumps - x36.Hi))),(w64 (s31.2.2 + 1))))
  else
   some (.inl (s31.1,s31.2.1,(w64 (s31.2.2 + 1))))
 else
  some (.inr (s31.1,s31.2.1))
def A24 (a0:RoHouse) (a1:RoPlan):Option (Int × Int × Int) :=
 (Q5 a0).bind fun x1 =>
 if (x1.2.2 != 0) = true then
  some (0,0,x1.2.2)
 else
  (B18 .i64 1 a0.Stoves).bind fun x3 =>
  (I2 0 (w64 (x3 - 1)) [a1.Lit]).bind fun x4 =>
  if x4 = true then
  some (0,0,7)
  else
  if ((List.length a1.At:Int) != (List.length a0.Figures:Int)) = true then
   some (0,0,3)
  else
   (I2 (-1) (w64 ((List.length a0.Places:Int) - 1)) a1.At).bind fun x7 =>
   if x7 = true then
   some (0,0,4)
   else
   (loop (A5m a1) (0,(room_plan.mk a1.Lit (Ar5.mk 0 0 0 0 0)))).bind fun (o19:(room_plan ⊕ Unit)) =>
   match o19 with
   | (.inl vo19_0) =>
    (loop (A5n a0 vo19_0) 0).bind fun (o28:(Unit ⊕ Unit)) =>
    match o28 with
    | (.inl vo28_0) =>
    (R4 (room_house.mk a0) vo19_0.at_ true).bind fun x29 =>
    if (!x29) = true then
     some (0,0,9)
    else
     (loop (A5o a0 vo19_0) ((-1),0,0)).bind fun (o40:(Int × Int)) =>
     if (decide (o40.1 < 0)) = true then
     some (0,0,4)
     else
     some (o40.1,o40.2,0)
    | (.inr vo28_1) =>
    some (0,0,9)
   | (.inr vo19_1) =>
    some (0,0,5)
theorem A5g {c:Sc} {H:A3} {a0:RoHouse} {a1:RoPlan} {r:(Int × Int × Int)} (h:A24 a0 a1 = some r) :
  E8 tab c H (.fn (.func 29) [] []) [(.agg (A6 a0)),(.agg (B8 a1))] [.i r.1,.i r.2.1,.i r.2.2]:= by
 unfold A24 at h
 refine cE rfl rfl<|sg 0 rfl<|A0 (G2 (cs:=A6 a0) rfl rfl rfl) rfl<|A0 (G2 (cs:=B8 a1) rfl rfl rfl) rfl<|qm rfl<|qm rfl<|qm rfl<|es (ra3 rfl rfl rfl)<|sg 2 rfl<|A0 (C5 rfl rfl rfl) rfl<|A0 (C5 rfl rfl rfl) rfl<|L5 (as2:=[(.agg (A6 a0)),(.agg (B8 a1))]) (H1:=(H++[(.cells (A6 a0)),(.cells (B8 a1)),.dead])) rfl rfl (A5 (D9 rfl) (A5 (D9 rfl) B9)) rfl rfl rfl (O7 rfl)<|sg 3 rfl<|A0 (G2 (cs:=A6 a0) rfl rfl rfl) rfl<|A0 (G2 (cs:=B8 a1) rfl rfl rfl) rfl<|qm rfl<|A0 D2 rfl<|qm rfl<|es (ra3 rfl rfl rfl)<|sg 6 rfl<|A0 (C5 rfl rfl rfl) rfl<|A0 (C5 rfl rfl rfl) rfl<|L5 (as2:=[(.agg (A6 a0)),(.agg (B8 a1))]) (H1:=(H++[(.cells (A6 a0)),(.cells (B8 a1)),.dead,(.cells (A6 a0)),(.cells (B8 a1)),(.cells (A1 (room_plan.mk 0 (Ar5.mk 0 0 0 0 0)))),.dead])) rfl rfl (A5 (D9 rfl) (A5 (D9 rfl) B9)) rfl rfl rfl (O7 rfl)<|sg 7 rfl<|A0 (G2 (cs:=A6 a0) rfl rfl rfl) rfl<|A0 (G2 (cs:=B8 a1) rfl rfl rfl) rfl<|qm rfl<|A0 D2 rfl<|qm rfl<|es (ra3 rfl rfl rfl)<|s0<|A0 (C5 rfl rfl rfl) rfl<|L5 (as2:=[(.agg (A6 a0))]) (H1:=(H++[(.cells (A6 a0)),(.cells (B8 a1)),.dead,(.cells (A6 a0)),(.cells (B8 a1)),(.cells (A1 (room_plan.mk 0 (Ar5.mk 0 0 0 0 0)))),.dead,(.cells (A6 a0)),(.cells (B8 a1)),(.cells (A1 (room_plan.mk 0 (Ar5.mk 0 0 0 0 0))))])) rfl rfl (A5 (D9 rfl) B9) rfl rfl rfl (O7 rfl)<|sg 10 rfl<|A0 (G2 (cs:=A6 a0) rfl rfl rfl) rfl<|qm rfl<|qm rfl<|es (ra1 rfl)<|s0<|oB h fun x1 hx1 h=>A0 (C5 rfl rfl rfl) rfl<|C2 (rs:=[.i x1.1,.i x1.2.1,.i x1.2.2]) rfl rfl (A5 (D9 rfl) B9) ((O2 hx1).frz)<|qm rfl<|A0 (A7 rfl rfl) rfl<|A0 (A7 rfl rfl) rfl<|A0 (A7 rfl rfl) rfl<|qm rfl<|qm rfl<|qm rfl<|es (ra2 rfl rfl)<|sg 11 rfl<|A0 (C5 rfl rfl rfl) rfl<|A0 (F2 (cs:=[.b false,(.fn (.func 112) [] [])]) rfl rfl) rfl<|A0 (F2 (cs:=[.b true,(.fn (.func 113) [] [])]) rfl rfl) rfl<|A0 (A1y (rows:=[[.b false,(.fn (.func 112) [] [])],[.b true,(.fn (.func 113) [] [])]]) rfl rfl) rfl<|A0 (F2 (cs:=[.i a0.Weather.Lo,.i a0.Weather.Hi,.i a0.Stoves,(.seq 1 (List.map cI a0.Holds)),(.seq 4 (List.map B5 a0.Places)),(.seq 6 (List.map B2 a0.Figures)),(.seq 1 (List.map cI a0.Bill)),(.xseq 2 [[.b false,(.fn (.func 112) [] [])],[.b true,(.fn (.func 113) [] [])]])]) rfl rfl) rfl<|A0 (G2 (cs:=[.i a0.Weather.Lo,.i a0.Weather.Hi,.i a0.Stoves,(.seq 1 (List.map cI a0.Holds)),(.seq 4 (List.map B5 a0.Places)),(.seq 6 (List.map B2 a0.Figures)),(.seq 1 (List.map cI a0.Bill)),(.xseq 2 [[.b false,(.fn (.func 112) [] [])],[.b true,(.fn (.func 113) [] [])]])]) rfl rfl rfl) rfl<|qm rfl<|qm rfl<|qm rfl<|es (ra2 rfl rfl) ?_
 refine C4<|InlQ.mk trivial ⟨_,_,_,[(.ptr (H.length + 11) 0),.i x1.2.2],_,(A9 rfl (A9 rfl B7)),(A4 rfl (A4 rfl B6)),(P6 (K1 (P4 rfl)) (C0 rfl (C0 rfl G3))),?_⟩
 refine qm rfl<|A0 (A7 rfl rfl) rfl<|A0 (A7 rfl rfl) rfl<|qm rfl<|qm rfl<|es (ra5 rfl rfl rfl rfl rfl)<|C3<|D0<|s0<|qm rfl<|A0 (M7 rfl rfl) rfl<|qm rfl<|es (ra6 rfl rfl rfl rfl rfl rfl)<|wi h rfl (fun hc2 h=>?_) fun hc2 h=>?_
 ·refine s0<|A0 (C5 rfl rfl rfl) rfl<|qm rfl<|E4 (C1 (ds:=(A1 (room_plan.mk 0 (Ar5.mk 0 0 0 0 0)))) rfl rfl rfl rfl (B3 rfl) rfl) rfl<|qm rfl<|qm rfl<|es (ra3 rfl rfl rfl)<|C4<|InlQ.mk trivial ⟨_,_,_,[(.lit (.pointer none)),(.agg (A1 (room_plan.mk 0 (Ar5.mk 0 0 0 0 0)))),.i x1.2.2],_,(A9 rfl (E5 (E2 (ds:=A1 (room_plan.mk 0 (Ar5.mk 0 0 0 0 0))) rfl rfl rfl rfl) (A9 rfl B7))),(A4 rfl (A4 (H9 rfl) (A4 rfl B6))),(M5 (A2 A8 (A2 (F9 rfl) (A2 A8 B1))) (C0 rfl (C0 rfl (C0 rfl G3))) (F1 _ _ _)),?_⟩
  refine qm rfl<|A0 (A7 rfl rfl) rfl<|A0 (A7 rfl rfl) rfl<|A0 (A7 rfl rfl) rfl<|A0 D2 rfl<|qm rfl<|E4 (C1 (ds:=(A1 (room_plan.mk 0 (Ar5.mk 0 0 0 0 0)))) rfl rfl rfl rfl (B3 rfl) rfl) rfl<|qm rfl<|es (ra4 rfl rfl rfl rfl)<|C3<|s0<|qm rfl<|A0 (M7 rfl rfl) rfl<|es (ra5 rfl rfl rfl rfl rfl)<|I3 rfl hc2<|s0<|A0 (C5 rfl rfl rfl) rfl<|qm rfl<|E4 (C1 (ds:=(A1 (room_plan.mk 0 (Ar5.mk 0 0 0 0 0)))) rfl rfl rfl rfl (B3 rfl) rfl) rfl<|qm rfl<|qm rfl<|es (ra3 rfl rfl rfl)<|C4<|InlQ.mk trivial ⟨_,_,_,[(.lit (.pointer none)),(.agg (A1 (room_plan.mk 0 (Ar5.mk 0 0 0 0 0)))),.i x1.2.2],_,(A9 rfl (E5 (E2 (ds:=A1 (room_plan.mk 0 (Ar5.mk 0 0 0 0 0))) rfl rfl rfl rfl) (A9 rfl B7))),(A4 rfl (A4 (H9 rfl) (A4 rfl B6))),(M5 (A2 A8 (A2 (F9 rfl) (A2 A8 B1))) (C0 rfl (C0 rfl (C0 rfl G3))) (F1 _ _ _)),?_⟩
  refine qm rfl<|A0 (A7 rfl rfl) rfl<|A0 (A7 rfl rfl) rfl<|A0 (A7 rfl rfl) rfl<|A0 D2 rfl<|qm rfl<|E4 (C1 (ds:=(A1 (room_plan.mk 0 (Ar5.mk 0 0 0 0 0)))) rfl rfl rfl rfl (B3 rfl) rfl) rfl<|qm rfl<|es (ra4 rfl rfl rfl rfl)<|C3<|s0<|qm rfl<|A0 (M7 rfl rfl) rfl<|es (ra5 rfl rfl rfl rfl rfl)<|I3 rfl hc2<|s0<|qm rfl<|qm rfl<|qm rfl<|qm rfl<|es (ra3 rfl rfl rfl)<|C4 ?_
  obtain rfl:=os h
  exact retq trivial (A9 rfl (A9 rfl (A9 rfl B7))) (A4 rfl (A4 rfl (A4 rfl B6))) (A2 A8 (A2 A8 (A2 A8 B1)))
 ·refine s0<|oB h fun x3 hx3 h=>oB h fun x4 hx4 h=>A0 (C9 rfl) rfl<|A0 (D1 rfl rfl rfl) rfl<|A0 (A70 rfl rfl hx3) rfl<|A0 (Y2 rfl rfl) rfl<|A0 (C9 rfl) rfl<|A0 (D1 rfl rfl rfl) rfl<|A0 (K3 (rows:=List.map cI [a1.Lit]) rfl rfl (E6 (fun _=>rfl) _)) rfl<|C2 (rs:=[.b x4]) rfl rfl (A5 rfl (A5 rfl (A5 rfl B9))) ((F3 hx4).frz)<|qm rfl<|es (ra5 rfl rfl rfl rfl rfl)<|wi h rfl (fun hc5 h=>?_) fun hc5 h=>?_
  ·refine s0<|A0 (C5 rfl rfl rfl) rfl<|qm rfl<|E4 (C1 (ds:=(A1 (room_plan.mk 0 (Ar5.mk 0 0 0 0 0)))) rfl rfl rfl rfl (B3 rfl) rfl) rfl<|qm rfl<|es (ra3 rfl rfl rfl)<|C4<|InlQ.mk trivial ⟨_,_,_,[(.lit (.pointer none)),(.agg (A1 (room_plan.mk 0 (Ar5.mk 0 0 0 0 0)))),.i 7],_,(A9 rfl (E5 (E2 (ds:=A1 (room_plan.mk 0 (Ar5.mk 0 0 0 0 0))) rfl rfl rfl rfl) (A9 rfl B7))),(A4 rfl (A4 (H9 rfl) (A4 rfl B6))),(M5 (A2 A8 (A2 (F9 rfl) (A2 A8 B1))) (C0 rfl (C0 rfl (C0 rfl G3))) (F1 _ _ _)),?_⟩
   refine qm rfl<|A0 (A7 rfl rfl) rfl<|A0 (A7 rfl rfl) rfl<|A0 (A7 rfl rfl) rfl<|A0 D2 rfl<|qm rfl<|E4 (C1 (ds:=(A1 (room_plan.mk 0 (Ar5.mk 0 0 0 0 0)))) rfl rfl rfl rfl (B3 rfl) rfl) rfl<|qm rfl<|es (ra4 rfl rfl rfl rfl)<|C3<|s0<|qm rfl<|A0 (F4 (v:=(.b true)) rfl rfl rfl) rfl<|es (ra5 rfl rfl rfl rfl rfl)<|I3 rfl rfl<|s0<|A0 (C5 rfl rfl rfl) rfl<|qm rfl<|E4 (C1 (ds:=(A1 (room_plan.mk 0 (Ar5.mk 0 0 0 0 0)))) rfl rfl rfl rfl (B3 rfl) rfl) rfl<|qm rfl<|qm rfl<|es (ra3 rfl rfl rfl)<|C4<|InlQ.mk trivial ⟨_,_,_,[(.lit (.pointer none)),(.agg (A1 (room_plan.mk 0 (Ar5.mk 0 0 0 0 0)))),.i 7],_,(A9 rfl (E5 (E2 (ds:=A1 (room_plan.mk 0 (Ar5.mk 0 0 0 0 0))) rfl rfl rfl rfl) (A9 rfl B7))),(A4 rfl (A4 (H9 rfl) (A4 rfl B6))),(M5 (A2 A8 (A2 (F9 rfl) (A2 A8 B1))) (C0 rfl (C0 rfl (C0 rfl G3))) (F1 _ _ _)),?_⟩
   refine qm rfl<|A0 (A7 rfl rfl) rfl<|A0 (A7 rfl rfl) rfl<|A0 (A7 rfl rfl) rfl<|A0 D2 rfl<|qm rfl<|E4 (C1 (ds:=(A1 (room_plan.mk 0 (Ar5.mk 0 0 0 0 0)))) rfl rfl rfl rfl (B3 rfl) rfl) rfl<|qm rfl<|es (ra4 rfl rfl rfl rfl)<|C3<|s0<|qm rfl<|A0 (F4 (v:=(.b true)) rfl rfl rfl) rfl<|es (ra5 rfl rfl rfl rfl rfl)<|I3 rfl rfl<|s0<|qm rfl<|qm rfl<|qm rfl<|qm rfl<|es (ra3 rfl rfl rfl)<|C4 ?_
   obtain rfl:=os h
   exact retq trivial (A9 rfl (A9 rfl (A9 rfl B7))) (A4 rfl (A4 rfl (A4 rfl B6))) (A2 A8 (A2 A8 (A2 A8 B1)))
  ·refine s0<|A0 (C9 rfl) rfl<|A0 (D1 rfl rfl rfl) rfl<|A0 (E9 (f:=cI) rfl) rfl<|A0 (C9 rfl) rfl<|A0 (D1 rfl rfl rfl) rfl<|A0 (E9 (f:=B2) rfl) rfl<|A0 (M7 rfl rfl) rfl<|qm rfl<|es (ra5 rfl rfl rfl rfl rfl)<|wi h rfl (fun hc6 h=>?_) fun hc6 h=>?_
   ·refine s0<|A0 (C5 rfl rfl rfl) rfl<|qm rfl<|E4 (C1 (ds:=(A1 (room_plan.mk 0 (Ar5.mk 0 0 0 0 0)))) rfl rfl rfl rfl (B3 rfl) rfl) rfl<|qm rfl<|es (ra3 rfl rfl rfl)<|C4<|InlQ.mk trivial ⟨_,_,_,[(.lit (.pointer none)),(.agg (A1 (room_plan.mk 0 (Ar5.mk 0 0 0 0 0)))),.i 3],_,(A9 rfl (E5 (E2 (ds:=A1 (room_plan.mk 0 (Ar5.mk 0 0 0 0 0))) rfl rfl rfl rfl) (A9 rfl B7))),(A4 rfl (A4 (H9 rfl) (A4 rfl B6))),(M5 (A2 A8 (A2 (F9 rfl) (A2 A8 B1))) (C0 rfl (C0 rfl (C0 rfl G3))) (F1 _ _ _)),?_⟩
    refine qm rfl<|A0 (A7 rfl rfl) rfl<|A0 (A7 rfl rfl) rfl<|A0 (A7 rfl rfl) rfl<|A0 D2 rfl<|qm rfl<|E4 (C1 (ds:=(A1 (room_plan.mk 0 (Ar5.mk 0 0 0 0 0)))) rfl rfl rfl rfl (B3 rfl) rfl) rfl<|qm rfl<|es (ra4 rfl rfl rfl rfl)<|C3<|s0<|qm rfl<|A0 (F4 (v:=(.b true)) rfl rfl rfl) rfl<|es (ra5 rfl rfl rfl rfl rfl)<|I3 rfl rfl<|s0<|A0 (C5 rfl rfl rfl) rfl<|qm rfl<|E4 (C1 (ds:=(A1 (room_plan.mk 0 (Ar5.mk 0 0 0 0 0)))) rfl rfl rfl rfl (B3 rfl) rfl) rfl<|qm rfl<|qm rfl<|es (ra3 rfl rfl rfl)<|C4<|InlQ.mk trivial ⟨_,_,_,[(.lit (.pointer none)),(.agg (A1 (room_plan.mk 0 (Ar5.mk 0 0 0 0 0)))),.i 3],_,(A9 rfl (E5 (E2 (ds:=A1 (room_plan.mk 0 (Ar5.mk 0 0 0 0 0))) rfl rfl rfl rfl) (A9 rfl B7))),(A4 rfl (A4 (H9 rfl) (A4 rfl B6))),(M5 (A2 A8 (A2 (F9 rfl) (A2 A8 B1))) (C0 rfl (C0 rfl (C0 rfl G3))) (F1 _ _ _)),?_⟩
    refine qm rfl<|A0 (A7 rfl rfl) rfl<|A0 (A7 rfl rfl) rfl<|A0 (A7 rfl rfl) rfl<|A0 D2 rfl<|qm rfl<|E4 (C1 (ds:=(A1 (room_plan.mk 0 (Ar5.mk 0 0 0 0 0)))) rfl rfl rfl rfl (B3 rfl) rfl) rfl<|qm rfl<|es (ra4 rfl rfl rfl rfl)<|C3<|s0<|qm rfl<|A0 (F4 (v:=(.b true)) rfl rfl rfl) rfl<|es (ra5 rfl rfl rfl rfl rfl)<|I3 rfl rfl<|s0<|qm rfl<|qm rfl<|qm rfl<|qm rfl<|es (ra3 rfl rfl rfl)<|C4 ?_
    obtain rfl:=os h
    exact retq trivial (A9 rfl (A9 rfl (A9 rfl B7))) (A4 rfl (A4 rfl (A4 rfl B6))) (A2 A8 (A2 A8 (A2 A8 B1)))
   ·refine s0<|oB h fun x7 hx7 h=>A0 (C9 rfl) rfl<|A0 (D1 rfl rfl rfl) rfl<|A0 (E9 (f:=B5) rfl) rfl<|A0 (Y2 rfl rfl) rfl<|A0 (C9 rfl) rfl<|A0 (D1 rfl rfl rfl) rfl<|C2 (rs:=[.b x7]) rfl rfl (A5 rfl (A5 rfl (A5 rfl B9))) ((F3 hx7).frz)<|qm rfl<|es (ra4 rfl rfl rfl rfl)<|wi h rfl (fun hc8 h=>?_) fun hc8 h=>?_
    ·refine s0<|A0 (C5 rfl rfl rfl) rfl<|qm rfl<|E4 (C1 (ds:=(A1 (room_plan.mk 0 (Ar5.mk 0 0 0 0 0)))) rfl rfl rfl rfl (B3 rfl) rfl) rfl<|qm rfl<|es (ra3 rfl rfl rfl)<|C4<|InlQ.mk trivial ⟨_,_,_,[(.lit (.pointer none)),(.agg (A1 (room_plan.mk 0 (Ar5.mk 0 0 0 0 0)))),.i 4],_,(A9 rfl (E5 (E2 (ds:=A1 (room_plan.mk 0 (Ar5.mk 0 0 0 0 0))) rfl rfl rfl rfl) (A9 rfl B7))),(A4 rfl (A4 (H9 rfl) (A4 rfl B6))),(M5 (A2 A8 (A2 (F9 rfl) (A2 A8 B1))) (C0 rfl (C0 rfl (C0 rfl G3))) (F1 _ _ _)),?_⟩
     refine qm rfl<|A0 (A7 rfl rfl) rfl<|A0 (A7 rfl rfl) rfl<|A0 (A7 rfl rfl) rfl<|A0 D2 rfl<|qm rfl<|E4 (C1 (ds:=(A1 (room_plan.mk 0 (Ar5.mk 0 0 0 0 0)))) rfl rfl rfl rfl (B3 rfl) rfl) rfl<|qm rfl<|es (ra4 rfl rfl rfl rfl)<|C3<|s0<|qm rfl<|A0 (F4 (v:=(.b true)) rfl rfl rfl) rfl<|es (ra5 rfl rfl rfl rfl rfl)<|I3 rfl rfl<|s0<|A0 (C5 rfl rfl rfl) rfl<|qm rfl<|E4 (C1 (ds:=(A1 (room_plan.mk 0 (Ar5.mk 0 0 0 0 0)))) rfl rfl rfl rfl (B3 rfl) rfl) rfl<|qm rfl<|qm rfl<|es (ra3 rfl rfl rfl)<|C4<|InlQ.mk trivial ⟨_,_,_,[(.lit (.pointer none)),(.agg (A1 (room_plan.mk 0 (Ar5.mk 0 0 0 0 0)))),.i 4],_,(A9 rfl (E5 (E2 (ds:=A1 (room_plan.mk 0 (Ar5.mk 0 0 0 0 0))) rfl rfl rfl rfl) (A9 rfl B7))),(A4 rfl (A4 (H9 rfl) (A4 rfl B6))),(M5 (A2 A8 (A2 (F9 rfl) (A2 A8 B1))) (C0 rfl (C0 rfl (C0 rfl G3))) (F1 _ _ _)),?_⟩
     refine qm rfl<|A0 (A7 rfl rfl) rfl<|A0 (A7 rfl rfl) rfl<|A0 (A7 rfl rfl) rfl<|A0 D2 rfl<|qm rfl<|E4 (C1 (ds:=(A1 (room_plan.mk 0 (Ar5.mk 0 0 0 0 0)))) rfl rfl rfl rfl (B3 rfl) rfl) rfl<|qm rfl<|es (ra4 rfl rfl rfl rfl)<|C3<|s0<|qm rfl<|A0 (F4 (v:=(.b true)) rfl rfl rfl) rfl<|es (ra5 rfl rfl rfl rfl rfl)<|I3 rfl rfl<|s0<|qm rfl<|qm rfl<|qm rfl<|qm rfl<|es (ra3 rfl rfl rfl)<|C4 ?_
     obtain rfl:=os h
     exact retq trivial (A9 rfl (A9 rfl (A9 rfl B7))) (A4 rfl (A4 rfl (A4 rfl B6))) (A2 A8 (A2 A8 (A2 A8 B1)))
    ·refine C6<|s0<|A0 (C9 rfl) rfl<|A0 (D1 rfl rfl rfl) rfl<|A0 (C9 rfl) rfl<|E4 (C1 (ds:=(A1 (room_plan.mk a1.Lit (Ar5.mk 0 0 0 0 0)))) rfl rfl rfl rfl (B3 rfl) rfl) rfl<|es (ra3 rfl rfl rfl)<|C3<|s0<|A0 (C9 rfl) rfl<|A0 (D1 rfl rfl rfl) rfl<|A0 (E9 (f:=cI) rfl) rfl<|qm rfl<|es (ra6 rfl rfl rfl rfl rfl rfl)<|D0<|oB h fun o19 ho19 h=>wl (fun s9=>[(3,(.ptr (H.length + 8) 0)),(4,(.ptr (H.length + 11) 0)),(5,(.ptr (H.length + 9) 0)),(51,(.seq 1 (List.map cI a1.At))),(52,(.i (List.length a1.At:Int))),(53,.i s9.1)]) (fun (q10:Unit) s9=>[(.cells (A6 a0)),(.cells (B8 a1)),.dead,(.cells (A6 a0)),(.cells (B8 a1)),(.cells (A1 (room_plan.mk 0 (Ar5.mk 0 0 0 0 0)))),.dead,(.cells (A6 a0)),(.cells (B8 a1)),(.cells (A1 s9.2)),(.cells (A6 a0)),(.cells [.i a0.Weather.Lo,.i a0.Weather.Hi,.i a0.Stoves,(.seq 1 (List.map cI a0.Holds)),(.seq 4 (List.map B5 a0.Places)),(.seq 6 (List.map B2 a0.Figures)),(.seq 1 (List.map cI a0.Bill)),(.xseq 2 [[.b false,(.fn (.func 112) [] [])],[.b true,(.fn (.func 113) [] [])]])])]) 12 (fun r e s' H'=>(match r with | (.inl v)=>PX 1 [(4,(.ptr (H.length + 11) 0)),(5,(.ptr (H.length + 9) 0))] (H++[(.cells (A6 a0)),(.cells (B8 a1)),.dead,(.cells (A6 a0)),(.cells (B8 a1)),(.cells (A1 (room_plan.mk 0 (Ar5.mk 0 0 0 0 0)))),.dead,(.cells (A6 a0)),(.cells (B8 a1)),(.cells (A1 v)),(.cells (A6 a0)),(.cells [.i a0.Weather.Lo,.i a0.Weather.Hi,.i a0.Stoves,(.seq 1 (List.map cI a0.Holds)),(.seq 4 (List.map B5 a0.Places)),(.seq 6 (List.map B2 a0.Figures)),(.seq 1 (List.map cI a0.Bill)),(.xseq 2 [[.b false,(.fn (.func 112) [] [])],[.b true,(.fn (.func 113) [] [])]])])]) e s' H' | (.inr v)=>e = .ret∧s' = [(4,(.lit (.pointer none))),(5,(.ptr (H.length + 9) 0)),(6,.i 5)]∧H' = (H++[(.cells (A6 a0)),(.cells (B8 a1)),.dead,(.cells (A6 a0)),(.cells (B8 a1)),(.cells (A1 (room_plan.mk 0 (Ar5.mk 0 0 0 0 0)))),.dead,(.cells (A6 a0)),(.cells (B8 a1)),(.cells (A1 (room_plan.mk 0 (Ar5.mk 0 0 0 0 0)))),(.cells (A6 a0)),(.cells [.i a0.Weather.Lo,.i a0.Weather.Hi,.i a0.Stoves,(.seq 1 (List.map cI a0.Holds)),(.seq 4 (List.map B5 a0.Places)),(.seq 6 (List.map B2 a0.Figures)),(.seq 1 (List.map cI a0.Bill)),(.xseq 2 [[.b false,(.fn (.func 112) [] [])],[.b true,(.fn (.func 113) [] [])]])])]):Prop)) () ho19 rfl rfl (fun _ _=>rfl) (fun _=>rfl) rfl (fun s9=>(bdc (G4 rfl) (bdc (G4 rfl) (bdc (G4 rfl) (bdc M4 (bdc A8 (bdc A8 bdn))))))) (fun q10 s9 ys9 hs9=>?_) ?_
     ·unfold A5m at hs9
      refine s0<|A0 (L7 rfl rfl) rfl<|es (ra7 rfl rfl rfl rfl rfl rfl rfl)<|C3<|wi hs9 rfl (fun hc11 hs9=>?_) fun hc11 hs9=>?_
      ·refine C6<|C3<|D0<|s0<|oB hs9 fun x12 hx12 hs9=>qm rfl<|A0 (N7 (f:=cI) rfl rfl hx12) rfl<|A0 (P7 rfl rfl) rfl<|qm rfl<|qm rfl<|es (ra8 rfl rfl rfl rfl rfl rfl rfl rfl)<|C3<|s0<|oB hs9 fun x16 hx16 hs9=>qm rfl<|A0 (M7 rfl rfl) rfl<|qm rfl<|gp 7 67 (.b x16) 60 rfl rfl (fun hg13=>?_) (fun hg13=>?_) ?_
       ·refine oB (bt hx16 hg13) fun x14 hx14 hx16=>oB hx16 fun x15 hx15 hx16=>?_
        obtain rfl:=os hx16
        exact gT rfl hg13<|A0 (C9 rfl) rfl<|gT rfl hg13<|A0 (D1 rfl rfl rfl) rfl<|gT rfl hg13<|qm rfl<|gT rfl hg13<|A0 (A5e (f:=cI) rfl rfl rfl hx14) rfl<|gT rfl hg13<|qm rfl<|gT rfl hg13<|C2 (rs:=[.b x15]) rfl rfl (A5 rfl (A5 rfl B9)) ((Q4 hx15).frz)<|A0 (D6 rfl hg13 rfl) rfl<|ge 7 rfl rfl rfl
       ·obtain rfl:=os (bf hx16 hg13)
        exact nT rfl hg13 rfl<|nT rfl hg13 rfl<|nT rfl hg13 rfl<|nT rfl hg13 rfl<|nT rfl hg13 rfl<|T4 (K9 rfl (by rw [hg13]; rfl)) rfl<|A0 (D7 rfl hg13 rfl) rfl<|ge 7 rfl rfl rfl
       refine es (ra9 rfl rfl rfl rfl rfl rfl rfl rfl rfl)<|wi hs9 rfl (fun hc17 hs9=>?_) fun hc17 hs9=>?_
       ·refine s0<|A0 (F2 (cs:=A1 (room_plan.mk 0 (Ar5.mk 0 0 0 0 0))) rfl rfl) rfl<|qm rfl<|E4 (C1 (ds:=(A1 (room_plan.mk 0 (Ar5.mk 0 0 0 0 0)))) rfl rfl rfl rfl (B3 rfl) rfl) rfl<|qm rfl<|es (ra3 rfl rfl rfl)<|C4 ?_
        obtain rfl:=os hs9
        exact lx rfl (And.intro rfl (And.intro rfl rfl)) (su3 rfl rfl rfl)
       ·refine C6<|r0<|oB hs9 fun x18 hx18 hs9=>qm rfl<|qm rfl<|A0 (I1 rfl rfl) rfl<|A0 (C9 rfl) rfl<|A0 (A3e (e:=Ar5.l s9.2.at_) rfl rfl rfl hx18) rfl<|E4 (A3t (f:=cI) (e:=Ar5.l s9.2.at_) (e2:=Ar5.l (Ar5.set s9.2.at_ s9.1 (w64 (x12 + 1)))) (z:=(w64 (x12 + 1))) (ds:=(A1 (room_plan.mk s9.2.lit_ (Ar5.set s9.2.at_ s9.1 (w64 (x12 + 1)))))) rfl rfl rfl rfl rfl rfl (fun _=>rfl) hx18 (Ar5.set_l hx18) rfl (B3 rfl)) rfl<|en (ra6 rfl rfl rfl rfl rfl rfl)<|r0<|A0 (I1 rfl rfl) rfl<|qm rfl<|en (ra6 rfl rfl rfl rfl rfl rfl) ?_
        cases hs9
        exact lnT () rfl (su6 rfl rfl rfl rfl rfl rfl)
      ·refine J0 ?_
       obtain rfl:=os hs9
       exact lx rfl px (su2 rfl rfl)
     ·rcases o19 with vo19_0 | vo19_1
      ·rintro e s' H' - ⟨rfl,rfl,rfl⟩
       refine s0<|qm rfl<|A0 (C5 rfl rfl rfl) rfl<|qm rfl<|E4 (C1 (ds:=(A1 vo19_0)) rfl rfl rfl rfl (B3 rfl) rfl) rfl<|qm rfl<|es (ra3 rfl rfl rfl)<|C4<|InlQ.mk trivial ⟨_,_,_,[(.ptr (H.length + 11) 0),(.agg (A1 vo19_0)),.i 0],_,(A9 rfl (E5 (E2 (ds:=A1 vo19_0) rfl rfl rfl rfl) (A9 rfl B7))),(A4 rfl (A4 (H9 rfl) (A4 rfl B6))),(P6 (K1 (P4 rfl)) (C0 rfl (C0 rfl (C0 rfl G3)))),?_⟩
       refine qm rfl<|A0 (A7 rfl rfl) rfl<|A0 (A7 rfl rfl) rfl<|A0 (A7 rfl rfl) rfl<|A0 D2 rfl<|qm rfl<|E4 (C1 (ds:=(A1 vo19_0)) rfl rfl rfl rfl (B3 rfl) rfl) rfl<|qm rfl<|es (ra4 rfl rfl rfl rfl)<|C3<|s0<|qm rfl<|A0 (F4 (v:=(.b false)) rfl rfl rfl) rfl<|es (ra5 rfl rfl rfl rfl rfl)<|V8 rfl rfl<|C6<|C3<|s0<|A0 (C9 rfl) rfl<|A0 (E2 (ds:=(J8 cI) vo19_0.at_) rfl rfl rfl rfl) rfl<|qm rfl<|es (ra5 rfl rfl rfl rfl rfl)<|D0<|oB h fun o28 ho28 h=>wl (fun s20=>[(5,(.ptr (H.length + 5) 0)),(7,(.ptr (H.length + 11) 0)),(8,(.ptr (H.length + 6) 0)),(24,(.agg ((J8 cI) vo19_0.at_))),(25,.i s20)]) (fun (q21:Unit) s20=>[(.cells (A6 a0)),(.cells (B8 a1)),.dead,(.cells (A6 a0)),(.cells (B8 a1)),(.cells (A1 (room_plan.mk 0 (Ar5.mk 0 0 0 0 0)))),(.cells (A1 vo19_0)),(.cells (A6 a0)),(.cells (B8 a1)),(.cells (A1 vo19_0)),(.cells (A6 a0)),(.cells [.i a0.Weather.Lo,.i a0.Weather.Hi,.i a0.Stoves,(.seq 1 (List.map cI a0.Holds)),(.seq 4 (List.map B5 a0.Places)),(.seq 6 (List.map B2 a0.Figures)),(.seq 1 (List.map cI a0.Bill)),(.xseq 2 [[.b false,(.fn (.func 112) [] [])],[.b true,(.fn (.func 113) [] [])]])])]) 12 (fun r e s' H'=>(match r with | (.inl v)=>PX 0 [(5,(.ptr (H.length + 5) 0)),(7,(.ptr (H.length + 11) 0)),(8,(.ptr (H.length + 6) 0))] (H++[(.cells (A6 a0)),(.cells (B8 a1)),.dead,(.cells (A6 a0)),(.cells (B8 a1)),(.cells (A1 (room_plan.mk 0 (Ar5.mk 0 0 0 0 0)))),(.cells (A1 vo19_0)),(.cells (A6 a0)),(.cells (B8 a1)),(.cells (A1 vo19_0)),(.cells (A6 a0)),(.cells [.i a0.Weather.Lo,.i a0.Weather.Hi,.i a0.Stoves,(.seq 1 (List.map cI a0.Holds)),(.seq 4 (List.map B5 a0.Places)),(.seq 6 (List.map B2 a0.Figures)),(.seq 1 (List.map cI a0.Bill)),(.xseq 2 [[.b false,(.fn (.func 112) [] [])],[.b true,(.fn (.func 113) [] [])]])])]) e s' H' | (.inr v)=>e = .ret∧s' = [(4,(.lit (.pointer none))),(5,(.ptr (H.length + 5) 0)),(6,.i 9)]∧H' = (H++[(.cells (A6 a0)),(.cells (B8 a1)),.dead,(.cells (A6 a0)),(.cells (B8 a1)),(.cells (A1 vo19_0)),(.cells (A1 vo19_0)),(.cells (A6 a0)),(.cells (B8 a1)),(.cells (A1 vo19_0)),(.cells (A6 a0)),(.cells [.i a0.Weather.Lo,.i a0.Weather.Hi,.i a0.Stoves,(.seq 1 (List.map cI a0.Holds)),(.seq 4 (List.map B5 a0.Places)),(.seq 6 (List.map B2 a0.Figures)),(.seq 1 (List.map cI a0.Bill)),(.xseq 2 [[.b false,(.fn (.func 112) [] [])],[.b true,(.fn (.func 113) [] [])]])])]):Prop)) () ho28 rfl rfl (fun _ _=>rfl) (fun _=>rfl) rfl (fun s20=>(bdc (G4 rfl) (bdc (G4 rfl) (bdc (G4 rfl) (bdc (F9 rfl) (bdc A8 bdn)))))) (fun q21 s20 ys20 hs20=>?_) ?_
       ·unfold A5n at hs20
        refine s0<|A0 (L7 rfl rfl) rfl<|es (ra6 rfl rfl rfl rfl rfl rfl)<|C3<|wi hs20 rfl (fun hc22 hs20=>?_) fun hc22 hs20=>?_
        ·refine C6<|C3<|D0<|s0<|oB hs20 fun x23 hx23 hs20=>qm rfl<|A0 (A1c (f:=cI) (g:=fun n=>(.i n)) (e:=Ar5.l vo19_0.at_) (fun _=>rfl) rfl rfl rfl rfl hx23) rfl<|qm rfl<|qm rfl<|es (ra7 rfl rfl rfl rfl rfl rfl rfl)<|s0<|oB hs20 fun x26 hx26 hs20=>qm rfl<|A0 (A09 rfl rfl) rfl<|qm rfl<|gp 9 40 (.b x26) 31 rfl rfl (fun hg24=>?_) (fun hg24=>?_) ?_
         ·refine oB (bt hx26 hg24) fun x25 hx25 hx26=>?_
          obtain rfl:=os hx26
          exact gT rfl hg24<|qm rfl<|gT rfl hg24<|qm rfl<|gT rfl hg24<|qm rfl<|gT rfl hg24<|A0 (Y2 rfl rfl) rfl<|gT rfl hg24<|A0 (C9 rfl) rfl<|gT rfl hg24<|A0 (D1 rfl rfl rfl) rfl<|gT rfl hg24<|C2 (rs:=[.i x25]) rfl rfl (A5 rfl (A5 rfl (A5 rfl (A5 rfl B9)))) ((Q3 (D5 rfl) hx25).frz)<|gT rfl hg24<|A0 (M7 rfl rfl) rfl<|A0 (D6 rfl hg24 rfl) rfl<|ge 9 rfl rfl rfl
         ·obtain rfl:=os (bf hx26 hg24)
          exact nT rfl hg24 rfl<|nT rfl hg24 rfl<|nT rfl hg24 rfl<|nT rfl hg24 rfl<|nT rfl hg24 rfl<|nT rfl hg24 rfl<|T4 (K9 rfl (by rw [hg24]; rfl)) rfl<|nT rfl hg24 rfl<|A0 (D7 rfl hg24 rfl) rfl<|ge 9 rfl rfl rfl
         refine es (ra6 rfl rfl rfl rfl rfl rfl)<|wi hs20 rfl (fun hc27 hs20=>?_) fun hc27 hs20=>?_
         ·refine s0<|A0 (C5 rfl rfl rfl) rfl<|qm rfl<|E4 (C1 (ds:=(A1 vo19_0)) rfl rfl rfl rfl (B3 rfl) rfl) rfl<|qm rfl<|es (ra3 rfl rfl rfl)<|C4 ?_
          obtain rfl:=os hs20
          exact lx rfl (And.intro rfl (And.intro rfl rfl)) (su3 rfl rfl rfl)
         ·refine C6<|r0<|A0 (I1 rfl rfl) rfl<|qm rfl<|en (ra5 rfl rfl rfl rfl rfl) ?_
          cases hs20
          exact lnT () rfl (su5 rfl rfl rfl rfl rfl)
        ·refine J0 ?_
         obtain rfl:=os hs20
         exact lx rfl px (su3 rfl rfl rfl)
       ·rcases o28 with vo28_0 | vo28_1
        ·rintro e s' H' - ⟨rfl,rfl,rfl⟩
         refine C3<|s0<|oB h fun x29 hx29 h=>qm rfl<|A0 (C9 rfl) rfl<|A0 (E2 (ds:=(J8 cI) vo19_0.at_) rfl rfl rfl rfl) rfl<|C2 (rs:=[.b x29]) rfl rfl (A5 rfl (A5 (D9 rfl) (A5 rfl B9))) ((N8 (D5 rfl) hx29).frz)<|A0 (A5t rfl) rfl<|es (ra4 rfl rfl rfl rfl)<|wi h rfl (fun hc30 h=>?_) fun hc30 h=>?_
         ·refine s0<|A0 (C5 rfl rfl rfl) rfl<|qm rfl<|E4 (C1 (ds:=(A1 vo19_0)) rfl rfl rfl rfl (B3 rfl) rfl) rfl<|qm rfl<|es (ra3 rfl rfl rfl)<|C4<|InlQ.mk trivial ⟨_,_,_,[(.lit (.pointer none)),(.agg (A1 vo19_0)),.i 9],_,(A9 rfl (E5 (E2 (ds:=A1 vo19_0) rfl rfl rfl rfl) (A9 rfl B7))),(A4 rfl (A4 (H9 rfl) (A4 rfl B6))),(M5 (A2 A8 (A2 (F9 rfl) (A2 A8 B1))) (C0 rfl (C0 rfl (C0 rfl G3))) (F1 _ _ _)),?_⟩
          refine qm rfl<|A0 (A7 rfl rfl) rfl<|A0 (A7 rfl rfl) rfl<|A0 (A7 rfl rfl) rfl<|A0 D2 rfl<|qm rfl<|E4 (C1 (ds:=(A1 vo19_0)) rfl rfl rfl rfl (B3 rfl) rfl) rfl<|qm rfl<|es (ra4 rfl rfl rfl rfl)<|C3<|s0<|qm rfl<|A0 (F4 (v:=(.b true)) rfl rfl rfl) rfl<|es (ra5 rfl rfl rfl rfl rfl)<|I3 rfl rfl<|s0<|qm rfl<|qm rfl<|qm rfl<|qm rfl<|es (ra3 rfl rfl rfl)<|C4 ?_
          obtain rfl:=os h
          exact retq trivial (A9 rfl (A9 rfl (A9 rfl B7))) (A4 rfl (A4 rfl (A4 rfl B6))) (A2 A8 (A2 A8 (A2 A8 B1)))
         ·refine C6<|s0<|qm rfl<|A0 (C5 rfl rfl rfl) rfl<|qm rfl<|E4 (C1 (ds:=(A1 vo19_0)) rfl rfl rfl rfl (B3 rfl) rfl) rfl<|qm rfl<|es (ra3 rfl rfl rfl)<|C4<|InlQ.mk trivial ⟨_,_,_,[(.ptr (H.length + 11) 0),(.agg (A1 vo19_0)),.i 0],_,(A9 rfl (E5 (E2 (ds:=A1 vo19_0) rfl rfl rfl rfl) (A9 rfl B7))),(A4 rfl (A4 (H9 rfl) (A4 rfl B6))),(P6 (K1 (P4 rfl)) (C0 rfl (C0 rfl (C0 rfl G3)))),?_⟩
          refine qm rfl<|A0 (A7 rfl rfl) rfl<|A0 (A7 rfl rfl) rfl<|A0 (A7 rfl rfl) rfl<|A0 D2 rfl<|qm rfl<|E4 (C1 (ds:=(A1 vo19_0)) rfl rfl rfl rfl (B3 rfl) rfl) rfl<|qm rfl<|es (ra4 rfl rfl rfl rfl)<|C3<|s0<|qm rfl<|A0 (F4 (v:=(.b false)) rfl rfl rfl) rfl<|es (ra5 rfl rfl rfl rfl rfl)<|V8 rfl rfl<|C6<|s0<|qm rfl<|es (ra4 rfl rfl rfl rfl)<|C3<|s0<|A0 (C9 rfl) rfl<|A0 (E2 (ds:=(J8 cI) vo19_0.at_) rfl rfl rfl rfl) rfl<|qm rfl<|es (ra6 rfl rfl rfl rfl rfl rfl)<|D0<|oB h fun o40 ho40 h=>wl (fun s31=>[(4,.i s31.1),(5,.i s31.2.1),(7,(.ptr (H.length + 11) 0)),(8,(.ptr (H.length + 2) 0)),(25,(.agg ((J8 cI) vo19_0.at_))),(26,.i s31.2.2)]) (fun (q32:Unit) s31=>[(.cells (A6 a0)),(.cells (B8 a1)),(.cells (A1 vo19_0)),(.cells (A6 a0)),(.cells (B8 a1)),(.cells (A1 vo19_0)),(.cells (A1 vo19_0)),(.cells (A6 a0)),(.cells (B8 a1)),(.cells (A1 vo19_0)),(.cells (A6 a0)),(.cells [.i a0.Weather.Lo,.i a0.Weather.Hi,.i a0.Stoves,(.seq 1 (List.map cI a0.Holds)),(.seq 4 (List.map B5 a0.Places)),(.seq 6 (List.map B2 a0.Figures)),(.seq 1 (List.map cI a0.Bill)),(.xseq 2 [[.b false,(.fn (.func 112) [] [])],[.b true,(.fn (.func 113) [] [])]])])]) 12 (fun r e s' H'=>PX 0 [(4,.i r.1),(5,.i r.2)] (H++[(.cells (A6 a0)),(.cells (B8 a1)),(.cells (A1 vo19_0)),(.cells (A6 a0)),(.cells (B8 a1)),(.cells (A1 vo19_0)),(.cells (A1 vo19_0)),(.cells (A6 a0)),(.cells (B8 a1)),(.cells (A1 vo19_0)),(.cells (A6 a0)),(.cells [.i a0.Weather.Lo,.i a0.Weather.Hi,.i a0.Stoves,(.seq 1 (List.map cI a0.Holds)),(.seq 4 (List.map B5 a0.Places)),(.seq 6 (List.map B2 a0.Figures)),(.seq 1 (List.map cI a0.Bill)),(.xseq 2 [[.b false,(.fn (.func 112) [] [])],[.b true,(.fn (.func 113) [] [])]])])]) e s' H') () ho40 rfl rfl (fun _ _=>rfl) (fun _=>rfl) rfl (fun s31=>(bdc A8 (bdc A8 (bdc (G4 rfl) (bdc (G4 rfl) (bdc (F9 rfl) (bdc A8 bdn))))))) (fun q32 s31 ys31 hs31=>?_) ?_
          ·unfold A5o at hs31
           refine s0<|A0 (L7 rfl rfl) rfl<|es (ra7 rfl rfl rfl rfl rfl rfl rfl)<|C3<|wi hs31 rfl (fun hc33 hs31=>?_) fun hc33 hs31=>?_
           ·refine C6<|C3<|D0<|s0<|oB hs31 fun x34 hx34 hs31=>qm rfl<|A0 (A1c (f:=cI) (g:=fun n=>(.i n)) (e:=Ar5.l vo19_0.at_) (fun _=>rfl) rfl rfl rfl rfl hx34) rfl<|qm rfl<|qm rfl<|es (ra8 rfl rfl rfl rfl rfl rfl rfl rfl)<|C3<|s0<|qm rfl<|A0 (J6 rfl rfl) rfl<|es (ra9 rfl rfl rfl rfl rfl rfl rfl rfl rfl)<|wi hs31 rfl (fun hc35 hs31=>?_) fun hc35 hs31=>?_
            ·refine J0<|r0<|A0 (I1 rfl rfl) rfl<|qm rfl<|en (ra6 rfl rfl rfl rfl rfl rfl) ?_
             cases hs31
             exact lnT () rfl (su6 rfl rfl rfl rfl rfl rfl)
            ·refine C6<|sg 12 rfl<|oB hs31 fun x36 hx36 hs31=>oB hs31 fun x37 hx37 hs31=>qm rfl<|qm rfl<|A0 (Y2 rfl rfl) rfl<|A0 (C9 rfl) rfl<|Z2 [12,13] (A1q [12,13] rfl O5 rfl rfl) (seen0 rfl) (D1 rfl rfl rfl) rfl<|Z2 [12,13] (A1q [12,13] rfl O5 rfl rfl) (seen0 rfl) (B3l (rs:=[(.agg (E0 x36))]) rfl rfl (N2 rfl (N2 rfl (N2 rfl A3g))) (A5 rfl (A5 rfl (A5 rfl B9))) ((W3 (B5h rfl) hx36).frz)) rfl<|A0 D2 rfl<|A0 D2 rfl<|B4r [11] [(.cells (A6 a0)),(.cells (B8 a1)),(.cells (A1 vo19_0)),(.cells (A6 a0)),(.cells (B8 a1)),(.cells (A1 vo19_0)),(.cells (A1 vo19_0)),(.cells (A6 a0)),(.cells (B8 a1)),(.cells (A1 vo19_0)),(.cells (A6 a0)),(.cells [.i a0.Weather.Lo,.i a0.Weather.Hi,.i a0.Stoves,(.seq 1 (List.map cI a0.Holds)),(.seq 4 (List.map B5 a0.Places)),(.seq 6 (List.map B2 a0.Figures)),(.seq 1 (List.map cI a0.Bill)),(.xseq 2 [[.b false,(.fn (.func 112) [] [])],[.b true,(.fn (.func 113) [] [])]])]),(.cells (E0 x36)),(.cells (B2 (RoFigure.mk (ByteArray.mk #[]) 0 0 0 0 0)))] (A1q [] rfl (A36 rfl A2d O5) rfl rfl) (seen0 rfl) (C1 (ds:=(E0 x36)) rfl rfl rfl rfl (B3 rfl) rfl) rfl rfl rfl<|qm rfl<|A0 (N0 rfl rfl) rfl<|A0 (C9 rfl) rfl<|A0 (C9 rfl) rfl<|Z2 [12,13] (A1q [12,13] rfl O5 rfl rfl) (A8i (b:=H.length + 11) rfl (A34 (A0g _ rfl) A5q)) (D1 (x:=(.seq 6 (List.map B2 a0.Figures))) rfl rfl rfl) rfl<|qm rfl<|Z2 [12,13] (A1q [12,13] rfl O5 rfl rfl) (A58 rfl) (N7 (f:=B2) rfl rfl hx37) rfl<|Z2 [12,13] (A1q [12,13] rfl O5 rfl rfl) (A58 rfl) (A1d rfl rfl) rfl<|E4 (C1 (ds:=(B2 x37)) rfl rfl rfl rfl (B3 rfl) rfl) rfl<|es (ra9 rfl rfl rfl rfl rfl rfl rfl rfl rfl)<|s0<|A0 (C9 rfl) rfl<|A0 (D1 rfl rfl rfl) rfl<|A0 (C9 rfl) rfl<|A0 (D1 rfl rfl rfl) rfl<|A0 (Y2 rfl rfl) rfl<|A0 (C9 rfl) rfl<|A0 (D1 rfl rfl rfl) rfl<|A0 (C9 rfl) rfl<|A0 (D1 rfl rfl rfl) rfl<|A0 (Y2 rfl rfl) rfl<|A0 (C2f rfl rfl) rfl<|qm rfl<|es (ra8 rfl rfl rfl rfl rfl rfl rfl rfl)<|s0<|qm rfl<|A0 (L7 rfl rfl) rfl<|qm rfl<|gp 4 63 (.b ((decide (s31.1 < 0)) || (decide ((B2o (w64 (x36.Lo - x37.Cracks)) (w64 (x37.Slumps - x36.Hi))) < s31.2.1)))) 59 rfl rfl (fun hg38=>?_) (fun hg38=>?_) ?_
             ·exact nF rfl hg38 rfl<|nF rfl hg38 rfl<|nF rfl hg38 rfl<|A0 (D6 rfl hg38 rfl) rfl<|ge 4 (by rw [hg38]; rfl) rfl rfl
             ·exact gF rfl hg38<|qm rfl<|gF rfl hg38<|qm rfl<|gF rfl hg38<|A0 (L7 rfl rfl) rfl<|A0 (D7 rfl hg38 rfl) rfl<|ge 4 (by rw [hg38]; rfl) rfl rfl
             refine es (ra9 rfl rfl rfl rfl rfl rfl rfl rfl rfl)<|wi hs31 rfl (fun hc39 hs31=>?_) fun hc39 hs31=>?_
             ·refine r0<|qm rfl<|qm rfl<|qm rfl<|qm rfl<|en (ra6 rfl rfl rfl rfl rfl rfl)<|r0<|A0 (I1 rfl rfl) rfl<|qm rfl<|en (ra6 rfl rfl rfl rfl rfl rfl) ?_
              cases hs31
              exact lnT () rfl (su6 rfl rfl rfl rfl rfl rfl)
             ·refine C6<|r0<|A0 (I1 rfl rfl) rfl<|qm rfl<|en (ra6 rfl rfl rfl rfl rfl rfl) ?_
              cases hs31
              exact lnT () rfl (su6 rfl rfl rfl rfl rfl rfl)
           ·refine J0 ?_
            obtain rfl:=os hs31
            exact lx rfl px (su2 rfl rfl)
          ·rintro e s' H' - ⟨rfl,rfl,rfl⟩
           refine C3<|s0<|qm rfl<|A0 (L7 rfl rfl) rfl<|es (ra3 rfl rfl rfl)<|wi h rfl (fun hc41 h=>?_) fun hc41 h=>?_
           ·refine s0<|qm rfl<|qm rfl<|qm rfl<|es (ra3 rfl rfl rfl)<|C4 ?_
            obtain rfl:=os h
            exact retq trivial (A9 rfl (A9 rfl (A9 rfl B7))) (A4 rfl (A4 rfl (A4 rfl B6))) (A2 A8 (A2 A8 (A2 A8 B1)))
           ·refine C6<|s0<|qm rfl<|qm rfl<|qm rfl<|qm rfl<|qm rfl<|es (ra3 rfl rfl rfl)<|C4 ?_
            obtain rfl:=os h
            exact retq trivial (A9 rfl (A9 rfl (A9 rfl B7))) (A4 rfl (A4 rfl (A4 rfl B6))) (A2 A8 (A2 A8 (A2 A8 B1)))
        ·rintro e s' H' - ⟨rfl,rfl,rfl⟩
         refine InlQ.mk trivial ⟨_,_,_,[(.lit (.pointer none)),(.agg (A1 vo19_0)),.i 9],_,(A9 rfl (E5 (E2 (ds:=A1 vo19_0) rfl rfl rfl rfl) (A9 rfl B7))),(A4 rfl (A4 (H9 rfl) (A4 rfl B6))),(M5 (A2 A8 (A2 (F9 rfl) (A2 A8 B1))) (C0 rfl (C0 rfl (C0 rfl G3))) (F1 _ _ _)),?_⟩
         refine qm rfl<|A0 (A7 rfl rfl) rfl<|A0 (A7 rfl rfl) rfl<|A0 (A7 rfl rfl) rfl<|A0 D2 rfl<|qm rfl<|E4 (C1 (ds:=(A1 vo19_0)) rfl rfl rfl rfl (B3 rfl) rfl) rfl<|qm rfl<|es (ra4 rfl rfl rfl rfl)<|C3<|s0<|qm rfl<|A0 (F4 (v:=(.b true)) rfl rfl rfl) rfl<|es (ra5 rfl rfl rfl rfl rfl)<|I3 rfl rfl<|s0<|qm rfl<|qm rfl<|qm rfl<|qm rfl<|es (ra3 rfl rfl rfl)<|C4 ?_
         obtain rfl:=os h
         exact retq trivial (A9 rfl (A9 rfl (A9 rfl B7))) (A4 rfl (A4 rfl (A4 rfl B6))) (A2 A8 (A2 A8 (A2 A8 B1)))
      ·rintro e s' H' - ⟨rfl,rfl,rfl⟩
       refine InlQ.mk trivial ⟨_,_,_,[(.lit (.pointer none)),(.agg (A1 (room_plan.mk 0 (Ar5.mk 0 0 0 0 0)))),.i 5],_,(A9 rfl (E5 (E2 (ds:=A1 (room_plan.mk 0 (Ar5.mk 0 0 0 0 0))) rfl rfl rfl rfl) (A9 rfl B7))),(A4 rfl (A4 (H9 rfl) (A4 rfl B6))),(M5 (A2 A8 (A2 (F9 rfl) (A2 A8 B1))) (C0 rfl (C0 rfl (C0 rfl G3))) (F1 _ _ _)),?_⟩
       refine qm rfl<|A0 (A7 rfl rfl) rfl<|A0 (A7 rfl rfl) rfl<|A0 (A7 rfl rfl) rfl<|A0 D2 rfl<|qm rfl<|E4 (C1 (ds:=(A1 (room_plan.mk 0 (Ar5.mk 0 0 0 0 0)))) rfl rfl rfl rfl (B3 rfl) rfl) rfl<|qm rfl<|es (ra4 rfl rfl rfl rfl)<|C3<|s0<|qm rfl<|A0 (F4 (v:=(.b true)) rfl rfl rfl) rfl<|es (ra5 rfl rfl rfl rfl rfl)<|I3 rfl rfl<|s0<|A0 (C5 rfl rfl rfl) rfl<|qm rfl<|E4 (C1 (ds:=(A1 (room_plan.mk 0 (Ar5.mk 0 0 0 0 0)))) rfl rfl rfl rfl (B3 rfl) rfl) rfl<|qm rfl<|qm rfl<|es (ra3 rfl rfl rfl)<|C4<|InlQ.mk trivial ⟨_,_,_,[(.lit (.pointer none)),(.agg (A1 (room_plan.mk 0 (Ar5.mk 0 0 0 0 0)))),.i 5],_,(A9 rfl (E5 (E2 (ds:=A1 (room_plan.mk 0 (Ar5.mk 0 0 0 0 0))) rfl rfl rfl rfl) (A9 rfl B7))),(A4 rfl (A4 (H9 rfl) (A4 rfl B6))),(M5 (A2 A8 (A2 (F9 rfl) (A2 A8 B1))) (C0 rfl (C0 rfl (C0 rfl G3))) (F1 _ _ _)),?_⟩
       refine qm rfl<|A0 (A7 rfl rfl) rfl<|A0 (A7 rfl rfl) rfl<|A0 (A7 rfl rfl) rfl<|A0 D2 rfl<|qm rfl<|E4 (C1 (ds:=(A1 (room_plan.mk 0 (Ar5.mk 0 0 0 0 0)))) rfl rfl rfl rfl (B3 rfl) rfl) rfl<|qm rfl<|es (ra4 rfl rfl rfl rfl)<|C3<|s0<|qm rfl<|A0 (F4 (v:=(.b true)) rfl rfl rfl) rfl<|es (ra5 rfl rfl rfl rfl rfl)<|I3 rfl rfl<|s0<|qm rfl<|qm rfl<|qm rfl<|qm rfl<|es (ra3 rfl rfl rfl)<|C4 ?_
       obtain rfl:=os h
       exact retq trivial (A9 rfl (A9 rfl (A9 rfl B7))) (A4 rfl (A4 rfl (A4 rfl B6))) (A2 A8 (A2 A8 (A2 A8 B1)))
def V5 (a0:Int):Option Int :=
 (A9c .u64 a0 1).bind fun x1 =>
 (A9c .u64 (IntKind.u64.wrap ((K6 .u64 x1 6148914691236517205) + (K6 .u64 a0 6148914691236517205))) 2).bind fun x2 =>
 (A9c .u64 (IntKind.u64.wrap ((K6 .u64 x2 3689348814741910323) + (K6 .u64 (IntKind.u64.wrap ((K6 .u64 x1 6148914691236517205) + (K6 .u64 a0 6148914691236517205))) 3689348814741910323))) 4).bind fun x3 =>
 (A9c .u64 (K6 .u64 (IntKind.u64.wrap (x3 + (IntKind.u64.wrap ((K6 .u64 x2 3689348814741910323) + (K6 .u64 (IntKind.u64.wrap ((K6 .u64 x1 6148914691236517205) + (K6 .u64 a0 6148914691236517205))) 3689348814741910323))))) 1085102592571150095) 8).bind fun x4 =>
 (A9c .u64 (IntKind.u64.wrap ((K6 .u64 (IntKind.u64.wrap (x3 + (IntKind.u64.wrap ((K6 .u64 x2 3689348814741910323) + (K6 .u64 (IntKind.u64.wrap ((K6 .u64 x1 6148914691236517205) + (K6 .u64 a0 6148914691236517205))) 3689348814741910323))))) 1085102592571150095) + x4)) 16).bind fun x5 =>
 (A9c .u64 (IntKind.u64.wrap ((IntKind.u64.wrap ((K6 .u64 (IntKind.u64.wrap (x3 + (IntKind.u64.wrap ((K6 .u64 x2 3689348814741910323) + (K6 .u64 (IntKind.u64.wrap ((K6 .u64 x1 6148914691236517205) + (K6 .u64 a0 6148914691236517205))) 3689348814741910323))))) 1085102592571150095) + x4)) + x5)) 32).bind fun x6 =>
 some (A92 (w64 (IntKind.u64.wrap ((IntKind.u64.wrap ((IntKind.u64.wrap ((K6 .u64 (IntKind.u64.wrap (x3 + (IntKind.u64.wrap ((K6 .u64 x2 3689348814741910323) + (K6 .u64 (IntKind.u64.wrap ((K6 .u64 x1 6148914691236517205) + (K6 .u64 a0 6148914691236517205))) 3689348814741910323))))) 1085102592571150095) + x4)) + x5)) + x6))) 127)
theorem A3f {c:Sc} {H:A3} {a0:Int} {r:Int} (h:V5 a0 = some r) :
  E8 tab c H (.fn (.func 122) [] []) [(.lit (.int .u64 a0))] [.i r]:= by
 unfold V5 at h
 refine cE rfl rfl<|s0<|qm rfl<|es (ra1 rfl)<|s0<|oB h fun x1 hx1 h=>qm rfl<|A0 (A5d rfl rfl hx1) rfl<|A0 (F4 (v:=(.lit (.int .u64 (K6 .u64 x1 6148914691236517205)))) rfl rfl rfl) rfl<|qm rfl<|A0 (F4 (v:=(.lit (.int .u64 (K6 .u64 a0 6148914691236517205)))) rfl rfl rfl) rfl<|A0 (F4 (v:=(.lit (.int .u64 (IntKind.u64.wrap ((K6 .u64 x1 6148914691236517205) + (K6 .u64 a0 6148914691236517205)))))) rfl rfl rfl) rfl<|qm rfl<|es (ra1 rfl)<|s0<|oB h fun x2 hx2 h=>qm rfl<|A0 (A5d rfl rfl hx2) rfl<|A0 (F4 (v:=(.lit (.int .u64 (K6 .u64 x2 3689348814741910323)))) rfl rfl rfl) rfl<|qm rfl<|A0 (F4 (v:=(.lit (.int .u64 (K6 .u64 (IntKind.u64.wrap ((K6 .u64 x1 6148914691236517205) + (K6 .u64 a0 6148914691236517205))) 3689348814741910323)))) rfl rfl rfl) rfl<|A0 (F4 (v:=(.lit (.int .u64 (IntKind.u64.wrap ((K6 .u64 x2 3689348814741910323) + (K6 .u64 (IntKind.u64.wrap ((K6 .u64 x1 6148914691236517205) + (K6 .u64 a0 6148914691236517205))) 3689348814741910323)))))) rfl rfl rfl) rfl<|qm rfl<|es (ra1 rfl)<|s0<|oB h fun x3 hx3 h=>qm rfl<|A0 (A5d rfl rfl hx3) rfl<|qm rfl<|A0 (F4 (v:=(.lit (.int .u64 (IntKind.u64.wrap (x3 + (IntKind.u64.wrap ((K6 .u64 x2 3689348814741910323) + (K6 .u64 (IntKind.u64.wrap ((K6 .u64 x1 6148914691236517205) + (K6 .u64 a0 6148914691236517205))) 3689348814741910323)))))))) rfl rfl rfl) rfl<|A0 (F4 (v:=(.lit (.int .u64 (K6 .u64 (IntKind.u64.wrap (x3 + (IntKind.u64.wrap ((K6 .u64 x2 3689348814741910323) + (K6 .u64 (IntKind.u64.wrap ((K6 .u64 x1 6148914691236517205) + (K6 .u64 a0 6148914691236517205))) 3689348814741910323))))) 1085102592571150095)))) rfl rfl rfl) rfl<|qm rfl<|es (ra1 rfl)<|s0<|oB h fun x4 hx4 h=>qm rfl<|qm rfl<|A0 (A5d rfl rfl hx4) rfl<|A0 (F4 (v:=(.lit (.int .u64 (IntKind.u64.wrap ((K6 .u64 (IntKind.u64.wrap (x3 + (IntKind.u64.wrap ((K6 .u64 x2 3689348814741910323) + (K6 .u64 (IntKind.u64.wrap ((K6 .u64 x1 6148914691236517205) + (K6 .u64 a0 6148914691236517205))) 3689348814741910323))))) 1085102592571150095) + x4))))) rfl rfl rfl) rfl<|qm rfl<|es (ra1 rfl)<|s0<|oB h fun x5 hx5 h=>qm rfl<|qm rfl<|A0 (A5d rfl rfl hx5) rfl<|A0 (F4 (v:=(.lit (.int .u64 (IntKind.u64.wrap ((IntKind.u64.wrap ((K6 .u64 (IntKind.u64.wrap (x3 + (IntKind.u64.wrap ((K6 .u64 x2 3689348814741910323) + (K6 .u64 (IntKind.u64.wrap ((K6 .u64 x1 6148914691236517205) + (K6 .u64 a0 6148914691236517205))) 3689348814741910323))))) 1085102592571150095) + x4)) + x5))))) rfl rfl rfl) rfl<|qm rfl<|es (ra1 rfl)<|s0<|oB h fun x6 hx6 h=>qm rfl<|qm rfl<|A0 (A5d rfl rfl hx6) rfl<|A0 (F4 (v:=(.lit (.int .u64 (IntKind.u64.wrap ((IntKind.u64.wrap ((IntKind.u64.wrap ((K6 .u64 (IntKind.u64.wrap (x3 + (IntKind.u64.wrap ((K6 .u64 x2 3689348814741910323) + (K6 .u64 (IntKind.u64.wrap ((K6 .u64 x1 6148914691236517205) + (K6 .u64 a0 6148914691236517205))) 3689348814741910323))))) 1085102592571150095) + x4)) + x5)) + x6))))) rfl rfl rfl) rfl<|qm rfl<|es (ra1 rfl)<|s0<|qm rfl<|A0 (B1e rfl) rfl<|A0 (F4 (v:=(.i (A92 (w64 (IntKind.u64.wrap ((IntKind.u64.wrap ((IntKind.u64.wrap ((K6 .u64 (IntKind.u64.wrap (x3 + (IntKind.u64.wrap ((K6 .u64 x2 3689348814741910323) + (K6 .u64 (IntKind.u64.wrap ((K6 .u64 x1 6148914691236517205) + (K6 .u64 a0 6148914691236517205))) 3689348814741910323))))) 1085102592571150095) + x4)) + x5)) + x6))) 127))) rfl rfl rfl) rfl ?_
 refine qm rfl<|es (ra1 rfl)<|C4 ?_
 obtain rfl:=os h
 exact retq trivial (A9 rfl B7) (A4 rfl B6) (A2 A8 B1)
def T2 (a0:Int):Option Int :=
 (V5 a0).bind fun x1 =>
 some x1
theorem A0k {c:Sc} {H:A3} {a0:Int} {r:Int} (h:T2 a0 = some r) :
  E8 tab c H (.fn (.func 100) [] []) [(.lit (.int .u64 a0))] [.i r]:= by
 unfold T2 at h
 refine cE rfl rfl<|s0<|qm rfl<|es (ra1 rfl)<|C3<|V8 rfl rfl<|C6<|s0<|oB h fun x1 hx1 h=>qm rfl<|C2 (rs:=[.i x1]) rfl rfl (A5 rfl B9) ((A3f hx1).frz)<|qm rfl<|es (ra1 rfl)<|C4 ?_
 obtain rfl:=os h
 exact retq trivial (A9 rfl B7) (A4 rfl B6) (A2 A8 B1)
def A6q (a0:RoHouse) (a1:Int) (s6:(Int × Int)) (s14:(Int × Int)):Option ((Int × Int) ⊕ Int) :=
 if (decide (s14.2 < (List.length a0.Places:Int))) = true then
  (P1 (room_house.mk a0) a1 s14.2 s6.2).bind fun x17 =>
  if (x17 == 1) = true then
  some (.inl (s6.2,(w64 (s14.2 + 1))))
  else
  some (.inl (s14.1,(w64 (s14.2 + 1))))
 else
  some (.inr s14.1)
def A6r (a0:RoHouse) (a1:Int) (x5:Int) (s6:(Int × Int)):Option ((Int × Int) ⊕ Int) :=
 if (decide (s6.2 < x5)) = true then
  (if (decide (s6.1 ≥ 0)) = true then
  (T2 (IntKind.u64.wrap s6.2)).bind fun x10 =>
  (T2 (IntKind.u64.wrap s6.1)).bind fun x11 =>
  some (decide (x10 ≥ x11))
  else
  some false).bind fun x12 =>
  if x12 = true then
  some (.inl (s6.1,(w64 (s6.2 + 1))))
  else
  (loop (A6q a0 a1 s6) (s6.1,0)).bind fun (o19:Int) =>
  some (.inl (o19,(w64 (s6.2 + 1))))
 else
  some (.inr s6.1)
def A4n (a0:RoHouse) (a1:Int):Option (Int × Int) :=
 (Q5 a0).bind fun x1 =>
 if (x1.2.2 != 0) = true then
  some (0,x1.2.2)
 else
  (I2 0 (w64 ((List.length a0.Figures:Int) - 1)) [a1]).bind fun x3 =>
  if x3 = true then
  some (0,4)
  else
  (B18 .i64 1 a0.Stoves).bind fun x5 =>
  (loop (A6r a0 a1 x5) ((-1),0)).bind fun (o20:Int) =>
  if (decide (o20 < 0)) = true then
   some (0,9)
  else
   some (o20,0)
theorem A6k {c:Sc} {H:A3} {a0:RoHouse} {a1:Int} {r:(Int × Int)} (h:A4n a0 a1 = some r) :
  E8 tab c H (.fn (.func 38) [] []) [(.agg (A6 a0)),.i a1] [.i r.1,.i r.2]:= by
 unfold A4n at h
 refine cE rfl rfl<|sg 0 rfl<|A0 (G2 (cs:=A6 a0) rfl rfl rfl) rfl<|qm rfl<|qm rfl<|es (ra2 rfl rfl)<|s0<|A0 (C5 rfl rfl rfl) rfl<|L5 (as2:=[(.agg (A6 a0))]) (H1:=(H++[(.cells (A6 a0))])) rfl rfl (A5 (D9 rfl) B9) rfl rfl rfl (O7 rfl)<|sg 1 rfl<|A0 (G2 (cs:=A6 a0) rfl rfl rfl) rfl<|qm rfl<|qm rfl<|es (ra1 rfl)<|s0<|oB h fun x1 hx1 h=>A0 (C5 rfl rfl rfl) rfl<|C2 (rs:=[.i x1.1,.i x1.2.1,.i x1.2.2]) rfl rfl (A5 (D9 rfl) B9) ((O2 hx1).frz)<|qm rfl<|A0 (A7 rfl rfl) rfl<|A0 (A7 rfl rfl) rfl<|A0 (A7 rfl rfl) rfl<|qm rfl<|qm rfl<|qm rfl<|es (ra2 rfl rfl)<|sg 2 rfl<|A0 (C5 rfl rfl rfl) rfl<|A0 (F2 (cs:=[.b false,(.fn (.func 112) [] [])]) rfl rfl) rfl<|A0 (F2 (cs:=[.b true,(.fn (.func 113) [] [])]) rfl rfl) rfl<|A0 (A1y (rows:=[[.b false,(.fn (.func 112) [] [])],[.b true,(.fn (.func 113) [] [])]]) rfl rfl) rfl<|A0 (F2 (cs:=[.i a0.Weather.Lo,.i a0.Weather.Hi,.i a0.Stoves,(.seq 1 (List.map cI a0.Holds)),(.seq 4 (List.map B5 a0.Places)),(.seq 6 (List.map B2 a0.Figures)),(.seq 1 (List.map cI a0.Bill)),(.xseq 2 [[.b false,(.fn (.func 112) [] [])],[.b true,(.fn (.func 113) [] [])]])]) rfl rfl) rfl<|A0 (G2 (cs:=[.i a0.Weather.Lo,.i a0.Weather.Hi,.i a0.Stoves,(.seq 1 (List.map cI a0.Holds)),(.seq 4 (List.map B5 a0.Places)),(.seq 6 (List.map B2 a0.Figures)),(.seq 1 (List.map cI a0.Bill)),(.xseq 2 [[.b false,(.fn (.func 112) [] [])],[.b true,(.fn (.func 113) [] [])]])]) rfl rfl rfl) rfl<|qm rfl<|qm rfl<|qm rfl<|es (ra2 rfl rfl)<|C4<|InlQ.mk trivial ⟨_,_,_,[(.ptr (H.length + 2) 0),.i x1.2.2],_,(A9 rfl (A9 rfl B7)),(A4 rfl (A4 rfl B6)),(P6 (K1 (P4 rfl)) (C0 rfl (C0 rfl G3))),?_⟩
 refine qm rfl<|A0 (A7 rfl rfl) rfl<|A0 (A7 rfl rfl) rfl<|qm rfl<|qm rfl<|es (ra4 rfl rfl rfl rfl)<|C3<|D0<|s0<|qm rfl<|A0 (M7 rfl rfl) rfl<|qm rfl<|es (ra5 rfl rfl rfl rfl rfl)<|wi h rfl (fun hc2 h=>?_) fun hc2 h=>?_
 ·refine s0<|qm rfl<|qm rfl<|qm rfl<|es (ra2 rfl rfl)<|C4 ?_
  obtain rfl:=os h
  exact retq trivial (A9 rfl (A9 rfl B7)) (A4 rfl (A4 rfl B6)) (A2 A8 (A2 A8 B1))
 ·refine s0<|oB h fun x3 hx3 h=>A0 (C9 rfl) rfl<|A0 (D1 rfl rfl rfl) rfl<|A0 (E9 (f:=B2) rfl) rfl<|A0 (Y2 rfl rfl) rfl<|qm rfl<|A0 (K3 (rows:=List.map cI [a1]) rfl rfl (E6 (fun _=>rfl) _)) rfl<|C2 (rs:=[.b x3]) rfl rfl (A5 rfl (A5 rfl (A5 rfl B9))) ((F3 hx3).frz)<|qm rfl<|es (ra4 rfl rfl rfl rfl)<|wi h rfl (fun hc4 h=>?_) fun hc4 h=>?_
  ·refine s0<|qm rfl<|qm rfl<|es (ra2 rfl rfl)<|C4 ?_
   obtain rfl:=os h
   exact retq trivial (A9 rfl (A9 rfl B7)) (A4 rfl (A4 rfl B6)) (A2 A8 (A2 A8 B1))
  ·refine C6<|s0<|qm rfl<|es (ra4 rfl rfl rfl rfl)<|C3<|s0<|oB h fun x5 hx5 h=>A0 (C9 rfl) rfl<|A0 (D1 rfl rfl rfl) rfl<|A0 (A70 rfl rfl hx5) rfl<|qm rfl<|es (ra6 rfl rfl rfl rfl rfl rfl)<|D0<|oB h fun o20 ho20 h=>wl (fun s6=>[(1,.i a1),(2,(.ptr (H.length + 0) 0)),(6,(.ptr (H.length + 2) 0)),(8,.i s6.1),(30,.i x5),(31,.i s6.2)]) (fun (q7:Unit) s6=>[(.cells (A6 a0)),(.cells (A6 a0)),(.cells [.i a0.Weather.Lo,.i a0.Weather.Hi,.i a0.Stoves,(.seq 1 (List.map cI a0.Holds)),(.seq 4 (List.map B5 a0.Places)),(.seq 6 (List.map B2 a0.Figures)),(.seq 1 (List.map cI a0.Bill)),(.xseq 2 [[.b false,(.fn (.func 112) [] [])],[.b true,(.fn (.func 113) [] [])]])])]) 3 (fun r e s' H'=>PX 1 [(8,.i r)] (H++[(.cells (A6 a0)),(.cells (A6 a0)),(.cells [.i a0.Weather.Lo,.i a0.Weather.Hi,.i a0.Stoves,(.seq 1 (List.map cI a0.Holds)),(.seq 4 (List.map B5 a0.Places)),(.seq 6 (List.map B2 a0.Figures)),(.seq 1 (List.map cI a0.Bill)),(.xseq 2 [[.b false,(.fn (.func 112) [] [])],[.b true,(.fn (.func 113) [] [])]])])]) e s' H') () ho20 rfl rfl (fun _ _=>rfl) (fun _=>rfl) rfl (fun s6=>(bdc A8 (bdc (G4 rfl) (bdc (G4 rfl) (bdc A8 (bdc A8 (bdc A8 bdn))))))) (fun q7 s6 ys6 hs6=>?_) ?_
   ·unfold A6r at hs6
    refine s0<|A0 (L7 rfl rfl) rfl<|es (ra7 rfl rfl rfl rfl rfl rfl rfl)<|C3<|wi hs6 rfl (fun hc8 hs6=>?_) fun hc8 hs6=>?_
    ·refine C6<|C3<|D0<|s0<|qm rfl<|qm rfl<|es (ra7 rfl rfl rfl rfl rfl rfl rfl)<|C3<|s0<|oB hs6 fun x12 hx12 hs6=>qm rfl<|A0 (B0l rfl rfl) rfl<|qm rfl<|gp 8 44 (.b x12) 36 rfl rfl (fun hg9=>?_) (fun hg9=>?_) ?_
     ·refine oB (bt hx12 hg9) fun x10 hx10 hx12=>oB hx12 fun x11 hx11 hx12=>?_
      obtain rfl:=os hx12
      exact gT rfl hg9<|qm rfl<|gT rfl hg9<|A0 (B1e rfl) rfl<|gT rfl hg9<|C2 (rs:=[.i x10]) rfl rfl (A5 rfl B9) ((A0k hx10).frz)<|gT rfl hg9<|qm rfl<|gT rfl hg9<|A0 (B1e rfl) rfl<|gT rfl hg9<|C2 (rs:=[.i x11]) rfl rfl (A5 rfl B9) ((A0k hx11).frz)<|gT rfl hg9<|A0 (B0l rfl rfl) rfl<|A0 (D6 rfl hg9 rfl) rfl<|ge 8 rfl rfl rfl
     ·obtain rfl:=os (bf hx12 hg9)
      exact nT rfl hg9 rfl<|nT rfl hg9 rfl<|T4 (K9 rfl (by rw [hg9]; rfl)) rfl<|nT rfl hg9 rfl<|nT rfl hg9 rfl<|T4 (K9 rfl (by rw [hg9]; rfl)) rfl<|nT rfl hg9 rfl<|A0 (D7 rfl hg9 rfl) rfl<|ge 8 rfl rfl rfl
     refine es (ra8 rfl rfl rfl rfl rfl rfl rfl rfl)<|wi hs6 rfl (fun hc13 hs6=>?_) fun hc13 hs6=>?_
     ·refine J0<|r0<|A0 (I1 rfl rfl) rfl<|qm rfl<|en (ra6 rfl rfl rfl rfl rfl rfl) ?_
      cases hs6
      exact lnT () rfl (su6 rfl rfl rfl rfl rfl rfl)
     ·refine C6<|s0<|A0 (C9 rfl) rfl<|A0 (D1 rfl rfl rfl) rfl<|A0 (E9 (f:=B5) rfl) rfl<|qm rfl<|es (ra9 rfl rfl rfl rfl rfl rfl rfl rfl rfl)<|D0<|oB hs6 fun o19 ho19 hs6=>wl (fun s14=>[(1,.i a1),(2,(.ptr (H.length + 0) 0)),(6,(.ptr (H.length + 2) 0)),(8,.i s14.1),(9,.i s6.2),(30,.i x5),(31,.i s6.2),(47,(.i (List.length a0.Places:Int))),(48,.i s14.2)]) (fun (q15:Unit) s14=>[(.cells (A6 a0)),(.cells (A6 a0)),(.cells [.i a0.Weather.Lo,.i a0.Weather.Hi,.i a0.Stoves,(.seq 1 (List.map cI a0.Holds)),(.seq 4 (List.map B5 a0.Places)),(.seq 6 (List.map B2 a0.Figures)),(.seq 1 (List.map cI a0.Bill)),(.xseq 2 [[.b false,(.fn (.func 112) [] [])],[.b true,(.fn (.func 113) [] [])]])])]) 3 (fun r e s' H'=>PX 3 [(1,.i a1),(2,(.ptr (H.length + 0) 0)),(6,(.ptr (H.length + 2) 0)),(8,.i r),(30,.i x5),(31,.i s6.2)] (H++[(.cells (A6 a0)),(.cells (A6 a0)),(.cells [.i a0.Weather.Lo,.i a0.Weather.Hi,.i a0.Stoves,(.seq 1 (List.map cI a0.Holds)),(.seq 4 (List.map B5 a0.Places)),(.seq 6 (List.map B2 a0.Figures)),(.seq 1 (List.map cI a0.Bill)),(.xseq 2 [[.b false,(.fn (.func 112) [] [])],[.b true,(.fn (.func 113) [] [])]])])]) e s' H') () ho19 rfl rfl (fun _ _=>rfl) (fun _=>rfl) rfl (fun s14=>(bdc A8 (bdc (G4 rfl) (bdc (G4 rfl) (bdc A8 (bdc A8 (bdc A8 (bdc A8 (bdc A8 (bdc A8 bdn)))))))))) (fun q15 s14 ys14 hs14=>?_) ?_
      ·unfold A6q at hs14
       refine s0<|A0 (L7 rfl rfl) rfl<|es (ra10 rfl rfl rfl rfl rfl rfl rfl rfl rfl rfl)<|C3<|wi hs14 rfl (fun hc16 hs14=>?_) fun hc16 hs14=>?_
       ·refine C6<|C3<|D0<|s0<|qm rfl<|qm rfl<|es (ra10 rfl rfl rfl rfl rfl rfl rfl rfl rfl rfl)<|s0<|oB hs14 fun x17 hx17 hs14=>qm rfl<|qm rfl<|qm rfl<|qm rfl<|C2 (rs:=[.i x17]) rfl rfl (A5 rfl (A5 rfl (A5 rfl (A5 rfl B9)))) ((Q3 (D5 rfl) hx17).frz)<|A0 (J6 rfl rfl) rfl<|es (ra10 rfl rfl rfl rfl rfl rfl rfl rfl rfl rfl)<|wi hs14 rfl (fun hc18 hs14=>?_) fun hc18 hs14=>?_
        ·refine r0<|qm rfl<|qm rfl<|en (ra9 rfl rfl rfl rfl rfl rfl rfl rfl rfl)<|r0<|A0 (I1 rfl rfl) rfl<|qm rfl<|en (ra9 rfl rfl rfl rfl rfl rfl rfl rfl rfl) ?_
         cases hs14
         exact lnT () rfl (su9 rfl rfl rfl rfl rfl rfl rfl rfl rfl)
        ·refine C6<|r0<|A0 (I1 rfl rfl) rfl<|qm rfl<|en (ra9 rfl rfl rfl rfl rfl rfl rfl rfl rfl) ?_
         cases hs14
         exact lnT () rfl (su9 rfl rfl rfl rfl rfl rfl rfl rfl rfl)
       ·refine J0 ?_
        obtain rfl:=os hs14
        exact lx rfl px (su6 rfl rfl rfl rfl rfl rfl)
      ·rintro e s' H' - ⟨rfl,rfl,rfl⟩
       refine r0<|A0 (I1 rfl rfl) rfl<|qm rfl<|en (ra6 rfl rfl rfl rfl rfl rfl) ?_
       cases hs6
       exact lnT () rfl (su6 rfl rfl rfl rfl rfl rfl)
    ·refine J0 ?_
     obtain rfl:=os hs6
     exact lx rfl px (su1 rfl)
   ·rintro e s' H' - ⟨rfl,rfl,rfl⟩
    refine C3<|s0<|qm rfl<|A0 (L7 rfl rfl) rfl<|es (ra2 rfl rfl)<|wi h rfl (fun hc21 h=>?_) fun hc21 h=>?_
    ·refine s0<|qm rfl<|qm rfl<|es (ra2 rfl rfl)<|C4 ?_
     obtain rfl:=os h
     exact retq trivial (A9 rfl (A9 rfl B7)) (A4 rfl (A4 rfl B6)) (A2 A8 (A2 A8 B1))
    ·refine C6<|s0<|qm rfl<|qm rfl<|qm rfl<|es (ra2 rfl rfl)<|C4 ?_
     obtain rfl:=os h
     exact retq trivial (A9 rfl (A9 rfl B7)) (A4 rfl (A4 rfl B6)) (A2 A8 (A2 A8 B1))
def A6s (x4:room_plan) (s6:(Int × (Ar5 Int))):Option ((Int × (Ar5 Int)) ⊕ (Ar5 Int)) :=
 if (decide (s6.1 < 5)) = true then
  (idx (Ar5.l x4.at_) s6.1).bind fun x9 =>
  (idx (Ar5.l s6.2) s6.1).bind fun x10 =>
  (idx (Ar5.l s6.2) s6.1).bind fun x11 =>
  some (.inl ((w64 (s6.1 + 1)),(Ar5.set s6.2 s6.1 (B1c x10 x9))))
 else
  some (.inr s6.2)
def A3j  (x4:room_plan) (s5:(Int × (Ar5 Int))):Option ((Int × (Ar5 Int)) ⊕ Unit) :=
 (loop (A6s x4) (0,s5.2)).bind fun (o12:(Ar5 Int)) =>
 some (.inl ((w64 (s5.1 + 1)),o12))
def A6t (a0:RoHouse) (vo13_14:(Int × (Ar5 Int))) (s17:(Int × (List Int))):Option ((Int × (List Int)) ⊕ (List Int)) :=
 if (decide (s17.1 < (List.length a0.Figures:Int))) = true then
  (idx (Ar5.l vo13_14.2) s17.1).bind fun x20 =>
  if (x20 == 0) = true then
  (app 8 s17.2 [s17.1]).bind fun x22 =>
  some (.inl ((w64 (s17.1 + 1)),x22))
  else
  some (.inl ((w64 (s17.1 + 1)),s17.2))
 else
  some (.inr s17.2)
def A2l (a0:RoHouse):Option ((List Int) × Int) :=
 (Q5 a0).bind fun x1 =>
 if (x1.2.2 != 0) = true then
  some (([]:List Int),x1.2.2)
 else
  (A77 (room_house.mk a0) (Int × (Ar5 Int)) Unit A3j (0,(Ar5.mk 0 0 0 0 0))).bind fun (o13:((Int × (Ar5 Int)) ⊕ Unit)) =>
  match o13 with
  | (.inl vo13_14) =>
  if (vo13_14.1 == 0) = true then
   some (([]:List Int),9)
  else
   (loop (A6t a0 vo13_14) (0,([]:List Int))).bind fun (o23:(List Int)) =>
   some (o23,0)
  | (.inr _)=>none
theorem B1j {c:Sc} {H:A3} (hscv:U7 c H = true) (hcl:clH H.length H = true) {a0:RoHouse} {r:((List Int) × Int)} (h:A2l a0 = some r) :
  E8 tab c H (.fn (.func 34) [] []) [(.agg (A6 a0))] [(.fresh 1 (List.map cI r.1)),.i r.2]:= by
 unfold A2l at h
 refine cE rfl rfl<|sg 0 rfl<|A0 (G2 (cs:=A6 a0) rfl rfl rfl) rfl<|A0 B8j rfl<|qm rfl<|es (ra2 rfl rfl)<|s0<|A0 (C5 rfl rfl rfl) rfl<|L5 (as2:=[(.agg (A6 a0))]) (H1:=(H++[(.cells (A6 a0)),(.arr 1 false (List.map cI ([]:List Int)))])) rfl rfl (A5 (D9 rfl) B9) rfl rfl rfl (O7 rfl)<|sg 2 rfl<|A0 (G2 (cs:=A6 a0) rfl rfl rfl) rfl<|qm rfl<|qm rfl<|es (ra1 rfl)<|s0<|oB h fun x1 hx1 h=>A0 (C5 rfl rfl rfl) rfl<|C2 (rs:=[.i x1.1,.i x1.2.1,.i x1.2.2]) rfl rfl (A5 (D9 rfl) B9) ((O2 hx1).frz)<|qm rfl<|A0 (A7 rfl rfl) rfl<|A0 (A7 rfl rfl) rfl<|A0 (A7 rfl rfl) rfl<|qm rfl<|qm rfl<|qm rfl<|es (ra2 rfl rfl)<|sg 3 rfl<|A0 (C5 rfl rfl rfl) rfl<|A0 (F2 (cs:=[.b false,(.fn (.func 112) [] [])]) rfl rfl) rfl<|A0 (F2 (cs:=[.b true,(.fn (.func 113) [] [])]) rfl rfl) rfl<|A0 (A1y (rows:=[[.b false,(.fn (.func 112) [] [])],[.b true,(.fn (.func 113) [] [])]]) rfl rfl) rfl<|A0 (F2 (cs:=[.i a0.Weather.Lo,.i a0.Weather.Hi,.i a0.Stoves,(.seq 1 (List.map cI a0.Holds)),(.seq 4 (List.map B5 a0.Places)),(.seq 6 (List.map B2 a0.Figures)),(.seq 1 (List.map cI a0.Bill)),(.xseq 2 [[.b false,(.fn (.func 112) [] [])],[.b true,(.fn (.func 113) [] [])]])]) rfl rfl) rfl<|A0 (G2 (cs:=[.i a0.Weather.Lo,.i a0.Weather.Hi,.i a0.Stoves,(.seq 1 (List.map cI a0.Holds)),(.seq 4 (List.map B5 a0.Places)),(.seq 6 (List.map B2 a0.Figures)),(.seq 1 (List.map cI a0.Bill)),(.xseq 2 [[.b false,(.fn (.func 112) [] [])],[.b true,(.fn (.func 113) [] [])]])]) rfl rfl rfl) rfl<|qm rfl<|qm rfl<|qm rfl<|es (ra2 rfl rfl)<|C4<|InlQ.mk trivial ⟨_,_,_,[(.ptr (H.length + 3) 0),.i x1.2.2],_,(A9 rfl (A9 rfl B7)),(A4 rfl (A4 rfl B6)),(P6 (K1 (P4 rfl)) (C0 rfl (C0 rfl G3))),?_⟩
 refine qm rfl<|A0 (A7 rfl rfl) rfl<|A0 (A7 rfl rfl) rfl<|qm rfl<|qm rfl<|es (ra4 rfl rfl rfl rfl)<|C3<|s0<|qm rfl<|A0 (M7 rfl rfl) rfl<|es (ra5 rfl rfl rfl rfl rfl)<|wi h rfl (fun hc2 h=>?_) fun hc2 h=>?_
 ·refine sg 4 rfl<|qm rfl<|A0 B8j rfl<|qm rfl<|es (ra2 rfl rfl)<|C4 ?_
  obtain rfl:=os h
  exact retq trivial (A9 rfl (A9 rfl B7)) (A4 (B4q rfl (List.length_map _)) (A4 rfl B6)) (A2 A7k (A2 A8 B1))
 ·refine C6<|sg 4 rfl<|A0 D2 rfl<|E4 (C1 (ds:=(cI 0)) rfl rfl rfl rfl (B3 rfl) rfl) rfl<|es (ra4 rfl rfl rfl rfl)<|sg 5 rfl<|A0 D2 rfl<|es (ra5 rfl rfl rfl rfl rfl)<|C3<|s0<|qm rfl<|L5 (as2:=[(.ptr (H.length + 3) 0)]) (H1:=(H++[(.cells (A6 a0)),(.arr 1 false (List.map cI ([]:List Int))),(.cells (A6 a0)),(.cells [.i a0.Weather.Lo,.i a0.Weather.Hi,.i a0.Stoves,(.seq 1 (List.map cI a0.Holds)),(.seq 4 (List.map B5 a0.Places)),(.seq 6 (List.map B2 a0.Figures)),(.seq 1 (List.map cI a0.Bill)),(.xseq 2 [[.b false,(.fn (.func 112) [] [])],[.b true,(.fn (.func 113) [] [])]])]),(.cells (cI 0)),(.cells ((J8 cI) (Ar5.mk 0 0 0 0 0)))])) rfl rfl (A5 rfl B9) rfl rfl rfl (O7 rfl)<|sg 6 rfl<|A0 (G2 (cs:=[(.ptr (H.length + 3) 0)]) rfl rfl rfl) rfl<|qm rfl<|es (ra1 rfl)<|s0<|A0 (A1m rfl rfl) rfl<|qm rfl<|es (ra1 rfl)<|C4<|InlQ.mk trivial ⟨_,_,_,[(.fn (.func 116) [] [(.ptr (H.length + 6) 0)])],_,(A9 rfl B7),(A4 rfl B6),(P6 (K1 (B0n (K1 (P4 rfl)))) (C0 rfl G3)),?_⟩
  refine es (ra5 rfl rfl rfl rfl rfl)<|D0<|oB h fun o13 ho13 h=>B4u (σ:=(Int × (Ar5 Int))) (ρ:=Unit) (k:=7) (ea:=(fun (x4:room_plan)=>(.agg (A1 x4)))) (body:=A3j) (pre:=fun H1=>hcells H1 (H.length + 6) = some [.ptr (H.length + 3) 0]∧hcells H1 (H.length + 3) = some (A8z (room_house.mk a0))) (B1u (t:=(room_house.mk a0)) (b1:=H.length + 6) (bt:=(H.length + 3))) A50 [(5,(.ptr (H.length + 4) 0)),(6,(.ptr (H.length + 5) 0))] (fun s5=>[(.cells (A6 a0)),(.arr 1 false (List.map cI ([]:List Int))),(.cells (A6 a0)),(.cells [.i a0.Weather.Lo,.i a0.Weather.Hi,.i a0.Stoves,(.seq 1 (List.map cI a0.Holds)),(.seq 4 (List.map B5 a0.Places)),(.seq 6 (List.map B2 a0.Figures)),(.seq 1 (List.map cI a0.Bill)),(.xseq 2 [[.b false,(.fn (.func 112) [] [])],[.b true,(.fn (.func 113) [] [])]])]),(.cells (cI s5.1)),(.cells ((J8 cI) s5.2)),(.cells [(.ptr (H.length + 3) 0)])]) (fun (_:Unit)=>[(.cells (A6 a0)),(.arr 1 false (List.map cI ([]:List Int))),(.cells (A6 a0)),(.cells [.i a0.Weather.Lo,.i a0.Weather.Hi,.i a0.Stoves,(.seq 1 (List.map cI a0.Holds)),(.seq 4 (List.map B5 a0.Places)),(.seq 6 (List.map B2 a0.Figures)),(.seq 1 (List.map cI a0.Bill)),(.xseq 2 [[.b false,(.fn (.func 112) [] [])],[.b true,(.fn (.func 113) [] [])]])]),(.cells (cI 0)),(.cells ((J8 cI) (Ar5.mk 0 0 0 0 0))),(.cells [(.ptr (H.length + 3) 0)])]) (fun _=>.ret) ho13 (fun _=>rfl) rfl (fun S hS=>M0 (live:=[5,6]) rfl (by decide) (Sub.trans (su2 rfl rfl) hS)) rfl (fun _=>rfl) (fun _=>rfl) hcl (by rw [Bool.and_eq_true,Bool.and_eq_true]; exact ⟨⟨by kernel_rfl,by kernel_rfl⟩,(by simp [clH,clS,AO.cl,AV.cl,clL,clM,clR,W6,A6a,A6b,A0f,J8,cI,cB,cS,G5,freeL,AV.free,freeR,Nat.blt,M8,Y8,G8,P0,F7,N1,H8,O9,K7,R1,G9,L9] <;> omega)⟩) (fun _=>(by simp [clH,clS,AO.cl,AV.cl,clL,clM,clR,W6,A6a,A6b,A0f,J8,cI,cB,cS,G5,freeL,AV.free,freeR,Nat.blt,M8,Y8,G8,P0,F7,N1,H8,O9,K7,R1,G9,L9] <;> omega)) (fun _=>(by simp [clH,clS,AO.cl,AV.cl,clL,clM,clR,W6,A6a,A6b,A0f,J8,cI,cB,cS,G5,freeL,AV.free,freeR,Nat.blt,M8,Y8,G8,P0,F7,N1,H8,O9,K7,R1,G9,L9] <;> omega)) (fun _=>(by simp [clH,clS,AO.cl,AV.cl,clL,clM,clR,W6,A6a,A6b,A0f,J8,cI,cB,cS,G5,freeL,AV.free,freeR,Nat.blt,M8,Y8,G8,P0,F7,N1,H8,O9,K7,R1,G9,L9] <;> omega)) ⟨fun _ _=>(And.intro (D5 rfl) (D5 rfl)),fun _ _=>(And.intro (D5 rfl) (D5 rfl))⟩ (B16 hscv) (fun c x4 s5 o hs5 y0_7 y1_7=>?_) ?_
  ·unfold A3j at hs5
   refine rg 8 rfl<|A0 D2 rfl<|E4 (C1 (ds:=(A1 x4)) rfl rfl rfl rfl (B3 rfl) rfl) rfl<|en (ra3 rfl rfl rfl)<|⟨_,rfl,rfl,rfl,?_⟩
   refine D0<|s0<|A0 (D1 rfl rfl rfl) rfl<|A0 (I1 rfl rfl) rfl<|E4 (C1 (ds:=(cI (w64 (s5.1 + 1)))) rfl rfl rfl rfl (B3 rfl) rfl) rfl<|es (ra2 rfl rfl)<|s0<|A0 (C9 rfl) rfl<|A0 (E2 (ds:=(J8 cI) x4.at_) rfl rfl rfl rfl) rfl<|qm rfl<|es (ra3 rfl rfl rfl)<|D0<|oB hs5 fun o12 ho12 hs5=>wl (fun s6=>[(6,(.ptr (H.length + 5) 0)),(25,(.agg ((J8 cI) x4.at_))),(26,.i s6.1)]) (fun (q7:Unit) s6=>[(.cells (A6 a0)),(.arr 1 false (List.map cI ([]:List Int))),(.cells (A6 a0)),(.cells [.i a0.Weather.Lo,.i a0.Weather.Hi,.i a0.Stoves,(.seq 1 (List.map cI a0.Holds)),(.seq 4 (List.map B5 a0.Places)),(.seq 6 (List.map B2 a0.Figures)),(.seq 1 (List.map cI a0.Bill)),(.xseq 2 [[.b false,(.fn (.func 112) [] [])],[.b true,(.fn (.func 113) [] [])]])]),(.cells (cI (w64 (s5.1 + 1)))),(.cells ((J8 cI) s6.2)),(.cells [(.ptr (H.length + 3) 0)]),y1_7,(.cells (A1 x4))]) 9 (fun r e s' H'=>PX 2 [] (H++[(.cells (A6 a0)),(.arr 1 false (List.map cI ([]:List Int))),(.cells (A6 a0)),(.cells [.i a0.Weather.Lo,.i a0.Weather.Hi,.i a0.Stoves,(.seq 1 (List.map cI a0.Holds)),(.seq 4 (List.map B5 a0.Places)),(.seq 6 (List.map B2 a0.Figures)),(.seq 1 (List.map cI a0.Bill)),(.xseq 2 [[.b false,(.fn (.func 112) [] [])],[.b true,(.fn (.func 113) [] [])]])]),(.cells (cI (w64 (s5.1 + 1)))),(.cells ((J8 cI) r)),(.cells [(.ptr (H.length + 3) 0)]),y1_7,(.cells (A1 x4))]) e s' H') () ho12 rfl rfl (fun _ _=>rfl) (fun _=>rfl) rfl (fun s6=>(bdc (G4 rfl) (bdc (F9 rfl) (bdc A8 bdn)))) (fun q7 s6 ys6 hs6=>?_) ?_
   ·unfold A6s at hs6
    refine s0<|A0 (L7 rfl rfl) rfl<|es (ra4 rfl rfl rfl rfl)<|C3<|wi hs6 rfl (fun hc8 hs6=>?_) fun hc8 hs6=>?_
    ·refine C6<|C3<|D0<|s0<|oB hs6 fun x9 hx9 hs6=>qm rfl<|A0 (A1c (f:=cI) (g:=fun n=>(.i n)) (e:=Ar5.l x4.at_) (fun _=>rfl) rfl rfl rfl rfl hx9) rfl<|qm rfl<|qm rfl<|es (ra5 rfl rfl rfl rfl rfl)<|r0<|oB hs6 fun x10 hx10 hs6=>oB hs6 fun x11 hx11 hs6=>qm rfl<|qm rfl<|A0 (A3e (e:=Ar5.l s6.2) rfl rfl rfl hx10) rfl<|A0 (B1h (f:=cI) (g:=fun n=>(.i n)) (e:=Ar5.l s6.2) (fun _=>rfl) rfl (D5 rfl) rfl hx10) rfl<|qm rfl<|A0 (C2f rfl rfl) rfl<|A0 (A3e (e:=Ar5.l s6.2) rfl rfl rfl hx11) rfl<|E4 (A3t (f:=cI) (e:=Ar5.l s6.2) (e2:=Ar5.l (Ar5.set s6.2 s6.1 (B1c x10 x9))) (z:=(B1c x10 x9)) (ds:=((J8 cI) (Ar5.set s6.2 s6.1 (B1c x10 x9)))) rfl rfl rfl rfl rfl rfl (fun _=>rfl) hx11 (Ar5.set_l hx11) rfl (B3 rfl)) rfl<|en (ra3 rfl rfl rfl)<|r0<|A0 (I1 rfl rfl) rfl<|qm rfl<|en (ra3 rfl rfl rfl) ?_
     cases hs6
     exact lnT () rfl (su3 rfl rfl rfl)
    ·refine J0 ?_
     obtain rfl:=os hs6
     exact lx rfl px (.nil _)
   ·rintro e s' H' - ⟨rfl,rfl,rfl⟩
    cases hs5
    exact ⟨_,rfl,rfl,rfl⟩
  ·rcases o13 with vo13_14 | vo13_15
   ·refine C3<|s0<|A0 (D1 rfl rfl rfl) rfl<|A0 (J6 rfl rfl) rfl<|es (ra4 rfl rfl rfl rfl)<|wi h rfl (fun hc16 h=>?_) fun hc16 h=>?_
    ·refine sg 8 rfl<|A0 B8j rfl<|qm rfl<|es (ra2 rfl rfl)<|C4 ?_
     obtain rfl:=os h
     exact retq trivial (A9 rfl (A9 rfl B7)) (A4 (B4q rfl (List.length_map _)) (A4 rfl B6)) (A2 A7k (A2 A8 B1))
    ·refine C6<|C3<|s0<|A0 (C9 rfl) rfl<|A0 (D1 rfl rfl rfl) rfl<|A0 (E9 (f:=B2) rfl) rfl<|qm rfl<|es (ra4 rfl rfl rfl rfl)<|D0<|oB h fun o23 ho23 h=>wl (fun s17=>[(2,(.asl (H.length + 1) (List.length s17.2))),(6,(.ptr (H.length + 5) 0)),(42,(.i (List.length a0.Figures:Int))),(43,.i s17.1)]) (fun (q18:Unit) s17=>[(.cells (A6 a0)),(.arr 1 false (List.map cI s17.2)),(.cells (A6 a0)),(.cells [.i a0.Weather.Lo,.i a0.Weather.Hi,.i a0.Stoves,(.seq 1 (List.map cI a0.Holds)),(.seq 4 (List.map B5 a0.Places)),(.seq 6 (List.map B2 a0.Figures)),(.seq 1 (List.map cI a0.Bill)),(.xseq 2 [[.b false,(.fn (.func 112) [] [])],[.b true,(.fn (.func 113) [] [])]])]),(.cells (cI vo13_14.1)),(.cells ((J8 cI) vo13_14.2)),(.cells [(.ptr (H.length + 3) 0)]),.dead]) 8 (fun r e s' H'=>PX 4 [(2,(.asl (H.length + 1) (List.length r)))] (H++[(.cells (A6 a0)),(.arr 1 false (List.map cI r)),(.cells (A6 a0)),(.cells [.i a0.Weather.Lo,.i a0.Weather.Hi,.i a0.Stoves,(.seq 1 (List.map cI a0.Holds)),(.seq 4 (List.map B5 a0.Places)),(.seq 6 (List.map B2 a0.Figures)),(.seq 1 (List.map cI a0.Bill)),(.xseq 2 [[.b false,(.fn (.func 112) [] [])],[.b true,(.fn (.func 113) [] [])]])]),(.cells (cI vo13_14.1)),(.cells ((J8 cI) vo13_14.2)),(.cells [(.ptr (H.length + 3) 0)]),.dead]) e s' H') () ho23 rfl rfl (fun _ _=>rfl) (fun _=>rfl) rfl (fun s17=>(bdc (B6q rfl) (bdc (G4 rfl) (bdc A8 (bdc A8 bdn))))) (fun q18 s17 ys17 hs17=>?_) ?_
     ·unfold A6t at hs17
      refine s0<|A0 (L7 rfl rfl) rfl<|es (ra5 rfl rfl rfl rfl rfl)<|C3<|wi hs17 rfl (fun hc19 hs17=>?_) fun hc19 hs17=>?_
      ·refine C6<|C3<|D0<|s0<|qm rfl<|qm rfl<|es (ra5 rfl rfl rfl rfl rfl)<|s0<|oB hs17 fun x20 hx20 hs17=>qm rfl<|A0 (A3e (e:=Ar5.l vo13_14.2) rfl rfl rfl hx20) rfl<|A0 (B1h (f:=cI) (g:=fun n=>(.i n)) (e:=Ar5.l vo13_14.2) (fun _=>rfl) rfl (D5 rfl) rfl hx20) rfl<|A0 (J6 rfl rfl) rfl<|es (ra6 rfl rfl rfl rfl rfl rfl)<|wi hs17 rfl (fun hc21 hs17=>?_) fun hc21 hs17=>?_
       ·refine r0<|oB hs17 fun x22 hx22 hs17=>qm rfl<|qm rfl<|A0 (K3 (rows:=List.map cI [s17.1]) rfl rfl (E6 (fun _=>rfl) _)) rfl<|B1s (B67 (f:=cI) rfl rfl rfl rfl B7i (fun _=>rfl) hx22) rfl<|qm rfl<|en (ra4 rfl rfl rfl rfl)<|r0<|A0 (I1 rfl rfl) rfl<|qm rfl<|en (ra4 rfl rfl rfl rfl) ?_
        cases hs17
        exact lnT () rfl (su4 rfl rfl rfl rfl)
       ·refine C6<|r0<|A0 (I1 rfl rfl) rfl<|qm rfl<|en (ra4 rfl rfl rfl rfl) ?_
        cases hs17
        exact lnT () rfl (su4 rfl rfl rfl rfl)
      ·refine J0 ?_
       obtain rfl:=os hs17
       exact lx rfl px (su1 rfl)
     ·rintro e s' H' - ⟨rfl,rfl,rfl⟩
      refine s0<|qm rfl<|qm rfl<|qm rfl<|es (ra2 rfl rfl)<|C4 ?_
      obtain rfl:=os h
      exact retq trivial (A9 rfl (A9 rfl B7)) (A4 (B4q rfl (List.length_map _)) (A4 rfl B6)) (A2 A7k (A2 A8 B1))
   ·cases h
theorem A6l {c:Sc} {H:A3} (hscv:U7 c H = true) {a0:RoHouse} {r:((List Int) × Int)} (h:A2l a0 = some r) :
  E8 tab c H (.fn (.func 34) [] []) [(.agg (A6 a0))] [(.fresh 1 (List.map cI r.1)),.i r.2]:=A42 A50 (B1j (c:=⟨0,[]⟩) (H:=[]) rfl rfl h) (by simp [freeL,AV.free,G5,cI,cB,cS,A6a,A6b,A0f,J8,M8,G8,F7,H8,K7,G9]) (by simp [freeL,AV.free,G5,cI,cB,cS,A6a,A6b,A0f,J8,M8,G8,F7,H8,K7,G9]) hscv
end Rm
end
