/- Texts that the claim stands on, one behind another. -/
import Derived.Test.YtjjmechghfjbmaaA4
import Derived.Test.YtjjmechghfjbmaaChecked
import Derived.KernelRfl
set_option linter.unusedVariables false
set_option linter.unusedSimpArgs false
set_option linter.unnecessarySimpa false
section
set_option maxRecDepth 100000
set_option maxHeartbeats 0
namespace Go.Proofs.Ytjjmechghfjbmaa
open Go Am Go.Proofs
theorem m5:D1 Try.prog Try.f5 Cd.a5 = true:= by kernel_rfl
theorem m6:D1 Try.prog Try.f6 Cd.a6 = true:= by kernel_rfl
theorem m9:D1 Try.prog Try.f9 Cd.a9 = true:= by kernel_rfl
theorem m12:D1 Try.prog Try.f12 Cd.a12 = true:= by kernel_rfl
theorem m13:D1 Try.prog Try.f13 Cd.a13 = true:= by kernel_rfl
theorem m14:D1 Try.prog Try.f14 Cd.a14 = true:= by kernel_rfl
theorem m15:D1 Try.prog Try.f15 Cd.a15 = true:= by kernel_rfl
theorem m16:D1 Try.prog Try.f16 Cd.a16 = true:= by kernel_rfl
theorem m17:D1 Try.prog Try.f17 Cd.a17 = true:= by kernel_rfl
theorem m18:D1 Try.prog Try.f18 Cd.a18 = true:= by kernel_rfl
theorem m20:D1 Try.prog Try.f20 Cd.a20 = true:= by kernel_rfl
theorem m21:D1 Try.prog Try.f21 Cd.a21 = true:= by kernel_rfl
theorem m23:D1 Try.prog Try.f23 Cd.a23 = true:= by kernel_rfl
theorem m24:D1 Try.prog Try.f24 Cd.a24 = true:= by kernel_rfl
theorem m26:D1 Try.prog Try.f26 Cd.a26 = true:= by kernel_rfl
theorem m27:D1 Try.prog Try.f27 Cd.a27 = true:= by kernel_rfl
theorem m29:D1 Try.prog Try.f29 Cd.a29 = true:= by kernel_rfl
theorem m30:D1 Try.prog Try.f30 Cd.a30 = true:= by kernel_rfl
theorem m31:D1 Try.prog Try.f31 Cd.a31 = true:= by kernel_rfl
theorem m32:D1 Try.prog Try.f32 Cd.a32 = true:= by kernel_rfl
theorem m33:D1 Try.prog Try.f33 Cd.a33 = true:= by kernel_rfl
theorem m34:D1 Try.prog Try.f34 Cd.a34 = true:= by kernel_rfl
theorem m35:D1 Try.prog Try.f35 Cd.a35 = true:= by kernel_rfl
theorem m36:D1 Try.prog Try.f36 Cd.a36 = true:= by kernel_rfl
theorem m37:D1 Try.prog Try.f37 Cd.a37 = true:= by kernel_rfl
theorem m38:D1 Try.prog Try.f38 Cd.a38 = true:= by kernel_rfl
theorem m39:D1 Try.prog Try.f39 Cd.a39 = true:= by kernel_rfl
theorem m40:D1 Try.prog Try.f40 Cd.a40 = true:= by kernel_rfl
theorem m41:D1 Try.prog Try.f41 Cd.a41 = true:= by kernel_rfl
theorem m45:D1 Try.prog Try.f45 Cd.a45 = true:= by kernel_rfl
theorem m46:D1 Try.prog Try.f46 Cd.a46 = true:= by kernel_rfl
theorem m47:D1 Try.prog Try.f47 Cd.a47 = true:= by kernel_rfl
theorem m48:D1 Try.prog Try.f48 Cd.a48 = true:= by kernel_rfl
theorem m49:D1 Try.prog Try.f49 Cd.a49 = true:= by kernel_rfl
theorem m50:D1 Try.prog Try.f50 Cd.a50 = true:= by kernel_rfl
theorem m51:D1 Try.prog Try.f51 Cd.a51 = true:= by kernel_rfl
theorem m52:D1 Try.prog Try.f52 Cd.a52 = true:= by kernel_rfl
theorem m53:D1 Try.prog Try.f53 Cd.a53 = true:= by kernel_rfl
theorem m54:D1 Try.prog Try.f54 Cd.a54 = true:= by kernel_rfl
theorem m55:D1 Try.prog Try.f55 Cd.a55 = true:= by kernel_rfl
theorem m56:D1 Try.prog Try.f56 Cd.a56 = true:= by kernel_rfl
theorem m57:D1 Try.prog Try.f57 Cd.a57 = true:= by kernel_rfl
theorem m58:D1 Try.prog Try.f58 Cd.a58 = true:= by kernel_rfl
theorem m59:D1 Try.prog Try.f59 Cd.a59 = true:= by kernel_rfl
theorem m60:D1 Try.prog Try.f60 Cd.a60 = true:= by kernel_rfl
theorem m61:D1 Try.prog Try.f61 Cd.a61 = true:= by kernel_rfl
theorem m62:D1 Try.prog Try.f62 Cd.a62 = true:= by kernel_rfl
theorem m63:D1 Try.prog Try.f63 Cd.a63 = true:= by kernel_rfl
theorem m64:D1 Try.prog Try.f64 Cd.a64 = true:= by kernel_rfl
theorem m65:D1 Try.prog Try.f65 Cd.a65 = true:= by kernel_rfl
theorem m68:D1 Try.prog Try.f68 Cd.a68 = true:= by kernel_rfl
theorem m69:D1 Try.prog Try.f69 Cd.a69 = true:= by kernel_rfl
theorem m70:D1 Try.prog Try.f70 Cd.a70 = true:= by kernel_rfl
theorem m71:D1 Try.prog Try.f71 Cd.a71 = true:= by kernel_rfl
theorem m72:D1 Try.prog Try.f72 Cd.a72 = true:= by kernel_rfl
theorem m73:D1 Try.prog Try.f73 Cd.a73 = true:= by kernel_rfl
theorem m74:D1 Try.prog Try.f74 Cd.a74 = true:= by kernel_rfl
theorem m75:D1 Try.prog Try.f75 Cd.a75 = true:= by kernel_rfl
theorem m76:D1 Try.prog Try.f76 Cd.a76 = true:= by kernel_rfl
theorem m77:D1 Try.prog Try.f77 Cd.a77 = true:= by kernel_rfl
theorem m78:D1 Try.prog Try.f78 Cd.a78 = true:= by kernel_rfl
theorem m79:D1 Try.prog Try.f79 Cd.a79 = true:= by kernel_rfl
theorem m80:D1 Try.prog Try.f80 Cd.a80 = true:= by kernel_rfl
theorem m81:D1 Try.prog Try.f81 Cd.a81 = true:= by kernel_rfl
theorem m82:D1 Try.prog Try.f82 Cd.a82 = true:= by kernel_rfl
theorem m83:D1 Try.prog Try.f83 Cd.a83 = true:= by kernel_rfl
theorem m84:D1 Try.prog Try.f84 Cd.a84 = true:= by kernel_rfl
theorem m85:D1 Try.prog Try.f85 Cd.a85 = true:= by kernel_rfl
theorem m86:D1 Try.prog Try.f86 Cd.a86 = true:= by kernel_rfl
theorem m87:D1 Try.prog Try.f87 Cd.a87 = true:= by kernel_rfl
theorem m88:D1 Try.prog Try.f88 Cd.a88 = true:= by kernel_rfl
theorem m89:D1 Try.prog Try.f89 Cd.a89 = true:= by kernel_rfl
theorem m90:D1 Try.prog Try.f90 Cd.a90 = true:= by kernel_rfl
theorem m91:D1 Try.prog Try.f91 Cd.a91 = true:= by kernel_rfl
theorem m92:D1 Try.prog Try.f92 Cd.a92 = true:= by kernel_rfl
theorem m93:D1 Try.prog Try.f93 Cd.a93 = true:= by kernel_rfl
theorem m94:D1 Try.prog Try.f94 Cd.a94 = true:= by kernel_rfl
theorem m95:D1 Try.prog Try.f95 Cd.a95 = true:= by kernel_rfl
theorem m96:D1 Try.prog Try.f96 Cd.a96 = true:= by kernel_rfl
theorem m97:D1 Try.prog Try.f97 Cd.a97 = true:= by kernel_rfl
theorem m98:D1 Try.prog Try.f98 Cd.a98 = true:= by kernel_rfl
theorem m99:D1 Try.prog Try.f99 Cd.a99 = true:= by kernel_rfl
theorem m100:D1 Try.prog Try.f100 Cd.a100 = true:= by kernel_rfl
theorem m101:D1 Try.prog Try.f101 Cd.a101 = true:= by kernel_rfl
theorem m102:D1 Try.prog Try.f102 Cd.a102 = true:= by kernel_rfl
theorem m103:D1 Try.prog Try.f103 Cd.a103 = true:= by kernel_rfl
theorem m104:D1 Try.prog Try.f104 Cd.a104 = true:= by kernel_rfl
theorem m105:D1 Try.prog Try.f105 Cd.a105 = true:= by kernel_rfl
theorem m106:D1 Try.prog Try.f106 Cd.a106 = true:= by kernel_rfl
theorem m107:D1 Try.prog Try.f107 Cd.a107 = true:= by kernel_rfl
theorem m108:D1 Try.prog Try.f108 Cd.a108 = true:= by kernel_rfl
theorem m109:D1 Try.prog Try.f109 Cd.a109 = true:= by kernel_rfl
theorem m110:D1 Try.prog Try.f110 Cd.a110 = true:= by kernel_rfl
theorem m111:D1 Try.prog Try.f111 Cd.a111 = true:= by kernel_rfl
theorem m112:D1 Try.prog Try.f112 Cd.a112 = true:= by kernel_rfl
theorem m113:D1 Try.prog Try.f113 Cd.a113 = true:= by kernel_rfl
theorem m114:D1 Try.prog Try.f114 Cd.a114 = true:= by kernel_rfl
theorem m115:D1 Try.prog Try.f115 Cd.a115 = true:= by kernel_rfl
theorem m116:D1 Try.prog Try.f116 Cd.a116 = true:= by kernel_rfl
theorem m117:D1 Try.prog Try.f117 Cd.a117 = true:= by kernel_rfl
theorem m118:D1 Try.prog Try.f118 Cd.a118 = true:= by kernel_rfl
theorem C4z:C6j Try.prog Cd.tab:= by
 intro i af h
 unfold Cd.tab at h
 split at h
 ·cases h; exact ⟨Try.f5,Try.func5,m5⟩
 ·cases h; exact ⟨Try.f6,Try.func6,m6⟩
 ·cases h; exact ⟨Try.f9,Try.func9,m9⟩
 ·cases h; exact ⟨Try.f12,Try.func12,m12⟩
 ·cases h; exact ⟨Try.f13,Try.func13,m13⟩
 ·cases h; exact ⟨Try.f14,Try.func14,m14⟩
 ·cases h; exact ⟨Try.f15,Try.func15,m15⟩
 ·cases h; exact ⟨Try.f16,Try.func16,m16⟩
 ·cases h; exact ⟨Try.f17,Try.func17,m17⟩
 ·cases h; exact ⟨Try.f18,Try.func18,m18⟩
 ·cases h; exact ⟨Try.f20,Try.func20,m20⟩
 ·cases h; exact ⟨Try.f21,Try.func21,m21⟩
 ·cases h; exact ⟨Try.f23,Try.func23,m23⟩
 ·cases h; exact ⟨Try.f24,Try.func24,m24⟩
 ·cases h; exact ⟨Try.f26,Try.func26,m26⟩
 ·cases h; exact ⟨Try.f27,Try.func27,m27⟩
 ·cases h; exact ⟨Try.f29,Try.func29,m29⟩
 ·cases h; exact ⟨Try.f30,Try.func30,m30⟩
 ·cases h; exact ⟨Try.f31,Try.func31,m31⟩
 ·cases h; exact ⟨Try.f32,Try.func32,m32⟩
 ·cases h; exact ⟨Try.f33,Try.func33,m33⟩
 ·cases h; exact ⟨Try.f34,Try.func34,m34⟩
 ·cases h; exact ⟨Try.f35,Try.func35,m35⟩
 ·cases h; exact ⟨Try.f36,Try.func36,m36⟩
 ·cases h; exact ⟨Try.f37,Try.func37,m37⟩
 ·cases h; exact ⟨Try.f38,Try.func38,m38⟩
 ·cases h; exact ⟨Try.f39,Try.func39,m39⟩
 ·cases h; exact ⟨Try.f40,Try.func40,m40⟩
 ·cases h; exact ⟨Try.f41,Try.func41,m41⟩
 ·cases h; exact ⟨Try.f45,Try.func45,m45⟩
 ·cases h; exact ⟨Try.f46,Try.func46,m46⟩
 ·cases h; exact ⟨Try.f47,Try.func47,m47⟩
 ·cases h; exact ⟨Try.f48,Try.func48,m48⟩
 ·cases h; exact ⟨Try.f49,Try.func49,m49⟩
 ·cases h; exact ⟨Try.f50,Try.func50,m50⟩
 ·cases h; exact ⟨Try.f51,Try.func51,m51⟩
 ·cases h; exact ⟨Try.f52,Try.func52,m52⟩
 ·cases h; exact ⟨Try.f53,Try.func53,m53⟩
 ·cases h; exact ⟨Try.f54,Try.func54,m54⟩
 ·cases h; exact ⟨Try.f55,Try.func55,m55⟩
 ·cases h; exact ⟨Try.f56,Try.func56,m56⟩
 ·cases h; exact ⟨Try.f57,Try.func57,m57⟩
 ·cases h; exact ⟨Try.f58,Try.func58,m58⟩
 ·cases h; exact ⟨Try.f59,Try.func59,m59⟩
 ·cases h; exact ⟨Try.f60,Try.func60,m60⟩
 ·cases h; exact ⟨Try.f61,Try.func61,m61⟩
 ·cases h; exact ⟨Try.f62,Try.func62,m62⟩
 ·cases h; exact ⟨Try.f63,Try.func63,m63⟩
 ·cases h; exact ⟨Try.f64,Try.func64,m64⟩
 ·cases h; exact ⟨Try.f65,Try.func65,m65⟩
 ·cases h; exact ⟨Try.f68,Try.func68,m68⟩
 ·cases h; exact ⟨Try.f69,Try.func69,m69⟩
 ·cases h; exact ⟨Try.f70,Try.func70,m70⟩
 ·cases h; exact ⟨Try.f71,Try.func71,m71⟩
 ·cases h; exact ⟨Try.f72,Try.func72,m72⟩
 ·cases h; exact ⟨Try.f73,Try.func73,m73⟩
 ·cases h; exact ⟨Try.f74,Try.func74,m74⟩
 ·cases h; exact ⟨Try.f75,Try.func75,m75⟩
 ·cases h; exact ⟨Try.f76,Try.func76,m76⟩
 ·cases h; exact ⟨Try.f77,Try.func77,m77⟩
 ·cases h; exact ⟨Try.f78,Try.func78,m78⟩
 ·cases h; exact ⟨Try.f79,Try.func79,m79⟩
 ·cases h; exact ⟨Try.f80,Try.func80,m80⟩
 ·cases h; exact ⟨Try.f81,Try.func81,m81⟩
 ·cases h; exact ⟨Try.f82,Try.func82,m82⟩
 ·cases h; exact ⟨Try.f83,Try.func83,m83⟩
 ·cases h; exact ⟨Try.f84,Try.func84,m84⟩
 ·cases h; exact ⟨Try.f85,Try.func85,m85⟩
 ·cases h; exact ⟨Try.f86,Try.func86,m86⟩
 ·cases h; exact ⟨Try.f87,Try.func87,m87⟩
 ·cases h; exact ⟨Try.f88,Try.func88,m88⟩
 ·cases h; exact ⟨Try.f89,Try.func89,m89⟩
 ·cases h; exact ⟨Try.f90,Try.func90,m90⟩
 ·cases h; exact ⟨Try.f91,Try.func91,m91⟩
 ·cases h; exact ⟨Try.f92,Try.func92,m92⟩
 ·cases h; exact ⟨Try.f93,Try.func93,m93⟩
 ·cases h; exact ⟨Try.f94,Try.func94,m94⟩
 ·cases h; exact ⟨Try.f95,Try.func95,m95⟩
 ·cases h; exact ⟨Try.f96,Try.func96,m96⟩
 ·cases h; exact ⟨Try.f97,Try.func97,m97⟩
 ·cases h; exact ⟨Try.f98,Try.func98,m98⟩
 ·cases h; exact ⟨Try.f99,Try.func99,m99⟩
 ·cases h; exact ⟨Try.f100,Try.func100,m100⟩
 ·cases h; exact ⟨Try.f101,Try.func101,m101⟩
 ·cases h; exact ⟨Try.f102,Try.func102,m102⟩
 ·cases h; exact ⟨Try.f103,Try.func103,m103⟩
 ·cases h; exact ⟨Try.f104,Try.func104,m104⟩
 ·cases h; exact ⟨Try.f105,Try.func105,m105⟩
 ·cases h; exact ⟨Try.f106,Try.func106,m106⟩
 ·cases h; exact ⟨Try.f107,Try.func107,m107⟩
 ·cases h; exact ⟨Try.f108,Try.func108,m108⟩
 ·cases h; exact ⟨Try.f109,Try.func109,m109⟩
 ·cases h; exact ⟨Try.f110,Try.func110,m110⟩
 ·cases h; exact ⟨Try.f111,Try.func111,m111⟩
 ·cases h; exact ⟨Try.f112,Try.func112,m112⟩
 ·cases h; exact ⟨Try.f113,Try.func113,m113⟩
 ·cases h; exact ⟨Try.f114,Try.func114,m114⟩
 ·cases h; exact ⟨Try.f115,Try.func115,m115⟩
 ·cases h; exact ⟨Try.f116,Try.func116,m116⟩
 ·cases h; exact ⟨Try.f117,Try.func117,m117⟩
 ·cases h; exact ⟨Try.f118,Try.func118,m118⟩
 ·cases h
end Go.Proofs.Ytjjmechghfjbmaa
end
section
set_option maxRecDepth 100000
set_option maxHeartbeats 0
namespace Vn
open Go Am Go.Proofs.Ytjjmechghfjbmaa.Cd
structure Span where
 mk ::
 (Lo:Int)
 (Hi:Int)
 deriving DecidableEq
def C6 (x:Span):List AV:=[.i x.Lo,.i x.Hi]
structure VaVan where
 mk ::
 (Name:ByteArray)
 (Room:Int)
 (Leave:Int)
 (Legs:(List Span))
 deriving DecidableEq
def C0 (x:VaVan):List AV:=[.s x.Name,.i x.Room,.i x.Leave,(.seq 2 (List.map C6 x.Legs))]
structure VaCrate where
 mk ::
 (Name:ByteArray)
 (Size:Int)
 (Stop:Int)
 (By:Int)
 deriving DecidableEq
def A9 (x:VaCrate):List AV:=[.s x.Name,.i x.Size,.i x.Stop,.i x.By]
structure VaPair where
 mk ::
 (A:Int)
 (B:Int)
 deriving DecidableEq
def C1 (x:VaPair):List AV:=[.i x.A,.i x.B]
structure VaTrain where
 mk ::
 (Vans:(List VaVan))
 (Stops:Int)
 (Handle:Int)
 (Crates:(List VaCrate))
 (Apart:(List VaPair))
 deriving DecidableEq
def A3 (x:VaTrain):List AV:=[(.seq 4 (List.map C0 x.Vans)),.i x.Stops,.i x.Handle,(.seq 4 (List.map A9 x.Crates)),(.seq 2 (List.map C1 x.Apart))]
structure law06_Asked where
 mk ::
 (Van:Int)
 (Stop:Int)
 (Minute:Int)
 (Crate:Int)
 deriving DecidableEq
def A0d (x:law06_Asked):List AV:=[.i x.Van,.i x.Stop,.i x.Minute,.i x.Crate]
structure van_train where
 mk ::
 (VaTrain:VaTrain)
 deriving DecidableEq
structure van_found where
 mk ::
 (sure_:Int)
 (twice_:Int)
 (lacks_:Int)
 deriving DecidableEq
def G8 (x:van_found):List AV:=[.i x.sure_,.i x.twice_,.i x.lacks_]
structure law06_Past where
 mk ::
 (Plan:(List Int))
 (Roads:(List Int))
 deriving DecidableEq
structure law06_Easier where
 mk ::
 (Room:Int)
 (By:Int)
 (Handle:Int)
 (Legs:Int)
 (Pair:Int)
 deriving DecidableEq
def Y1 (a0:Int) (a1:Int):Option Span :=
 some (Span.mk a0 a1)
theorem W2 {c:Sc} {H:A6} {a0:Int} {a1:Int} {r:Span} (h:Y1 a0 a1 = some r) :
  F2 tab c H (.fn (.func 39) [] []) [.i a0,.i a1] [(.agg (C6 r))]:= by
 unfold Y1 at h
 refine cE rfl rfl<|sg 0 rfl<|A0 E6 rfl<|es (ra3 rfl rfl rfl)<|s0<|qm rfl<|qm rfl<|A0 (N7 (cs:=C6 (Span.mk a0 a1)) rfl rfl) rfl<|G6 (E2 (ds:=(C6 (Span.mk a0 a1))) rfl rfl rfl rfl (E1 rfl) rfl) rfl<|es (ra1 rfl)<|C4 ?_
 obtain rfl:=os h
 exact retq trivial (M2 (A08 (ds:=C6 (Span.mk a0 a1)) rfl rfl rfl rfl) B7) (A5 (B66 rfl) B6) (A1 (A85 rfl) A8)
def B1l :Option VaTrain :=
 (Y1 60 80).bind fun x1 =>
 (Y1 30 50).bind fun x2 =>
 (Y1 50 60).bind fun x3 =>
 (Y1 30 40).bind fun x4 =>
 some (VaTrain.mk ([(VaVan.mk (ByteArray.mk #[114,101,100]) 5 100 [x1,x2]),(VaVan.mk (ByteArray.mk #[98,108,117,101]) 4 160 [x3,x4])]:List VaVan) 2 10 ([(VaCrate.mk (ByteArray.mk #[104,101,97,100,115]) 2 0 190),(VaCrate.mk (ByteArray.mk #[119,105,103,115]) 1 1 250),(VaCrate.mk (ByteArray.mk #[119,97,120]) 3 0 230),(VaCrate.mk (ByteArray.mk #[103,108,97,115,115]) 2 1 240)]:List VaCrate) [(VaPair.mk 0 2)])
theorem B42 {c:Sc} {H:A6}  {r:VaTrain} (h:B1l  = some r) :
  F2 tab c H (.fn (.func 37) [] []) [] [(.agg [(.fresh 4 (List.map C0 r.Vans)),.i r.Stops,.i r.Handle,(.fresh 4 (List.map A9 r.Crates)),(.seq 2 (List.map C1 r.Apart))])]:= by
 unfold B1l at h
 refine cE rfl rfl<|sg 0 rfl<|A0 C3k rfl<|es (ra1 rfl)<|sg 3 rfl<|oB h fun x1 hx1 h=>oB h fun x2 hx2 h=>oB h fun x3 hx3 h=>oB h fun x4 hx4 h=>B2 (rs:=[(.agg (C6 x1))]) rfl rfl (A2 rfl (A2 rfl B4)) ((W2 hx1).frz)<|B2 (rs:=[(.agg (C6 x2))]) rfl rfl (A2 rfl (A2 rfl B4)) ((W2 hx2).frz)<|A0 (I8 (rows:=List.map C6 [x1,x2]) rfl rfl (E4 (fun _=>rfl) _)) rfl<|A0 (N7 (cs:=C0 (VaVan.mk (ByteArray.mk #[114,101,100]) 5 100 [x1,x2])) rfl rfl) rfl<|B2 (rs:=[(.agg (C6 x3))]) rfl rfl (A2 rfl (A2 rfl B4)) ((W2 hx3).frz)<|B2 (rs:=[(.agg (C6 x4))]) rfl rfl (A2 rfl (A2 rfl B4)) ((W2 hx4).frz)<|A0 (I8 (rows:=List.map C6 [x3,x4]) rfl rfl (E4 (fun _=>rfl) _)) rfl<|A0 (N7 (cs:=C0 (VaVan.mk (ByteArray.mk #[98,108,117,101]) 4 160 [x3,x4])) rfl rfl) rfl<|A0 (A9j (rows:=List.map C0 [(VaVan.mk (ByteArray.mk #[114,101,100]) 5 100 [x1,x2]),(VaVan.mk (ByteArray.mk #[98,108,117,101]) 4 160 [x3,x4])]) rfl rfl (E4 (fun _=>rfl) _)) rfl<|A0 (N7 (cs:=A9 (VaCrate.mk (ByteArray.mk #[104,101,97,100,115]) 2 0 190)) rfl rfl) rfl<|A0 (N7 (cs:=A9 (VaCrate.mk (ByteArray.mk #[119,105,103,115]) 1 1 250)) rfl rfl) rfl<|A0 (N7 (cs:=A9 (VaCrate.mk (ByteArray.mk #[119,97,120]) 3 0 230)) rfl rfl) rfl<|A0 (N7 (cs:=A9 (VaCrate.mk (ByteArray.mk #[103,108,97,115,115]) 2 1 240)) rfl rfl) rfl<|A0 (A9j (rows:=List.map A9 [(VaCrate.mk (ByteArray.mk #[104,101,97,100,115]) 2 0 190),(VaCrate.mk (ByteArray.mk #[119,105,103,115]) 1 1 250),(VaCrate.mk (ByteArray.mk #[119,97,120]) 3 0 230),(VaCrate.mk (ByteArray.mk #[103,108,97,115,115]) 2 1 240)]) rfl rfl (E4 (fun _=>rfl) _)) rfl<|A0 (N7 (cs:=C1 (VaPair.mk 0 2)) rfl rfl) rfl<|A0 (I8 (rows:=List.map C1 [(VaPair.mk 0 2)]) rfl rfl (E4 (fun _=>rfl) _)) rfl<|A0 (N7 (cs:=[(.asl (H.length + 3) (List.length ([(VaVan.mk (ByteArray.mk #[114,101,100]) 5 100 [x1,x2]),(VaVan.mk (ByteArray.mk #[98,108,117,101]) 4 160 [x3,x4])]:List VaVan))),.i 2,.i 10,(.asl (H.length + 4) (List.length ([(VaCrate.mk (ByteArray.mk #[104,101,97,100,115]) 2 0 190),(VaCrate.mk (ByteArray.mk #[119,105,103,115]) 1 1 250),(VaCrate.mk (ByteArray.mk #[119,97,120]) 3 0 230),(VaCrate.mk (ByteArray.mk #[103,108,97,115,115]) 2 1 240)]:List VaCrate))),(.seq 2 (List.map C1 [(VaPair.mk 0 2)]))]) rfl rfl) rfl<|G6 (E2 (ds:=[(.asl (H.length + 3) (List.length ([(VaVan.mk (ByteArray.mk #[114,101,100]) 5 100 [x1,x2]),(VaVan.mk (ByteArray.mk #[98,108,117,101]) 4 160 [x3,x4])]:List VaVan))),.i 2,.i 10,(.asl (H.length + 4) (List.length ([(VaCrate.mk (ByteArray.mk #[104,101,97,100,115]) 2 0 190),(VaCrate.mk (ByteArray.mk #[119,105,103,115]) 1 1 250),(VaCrate.mk (ByteArray.mk #[119,97,120]) 3 0 230),(VaCrate.mk (ByteArray.mk #[103,108,97,115,115]) 2 1 240)]:List VaCrate))),(.seq 2 (List.map C1 [(VaPair.mk 0 2)]))]) rfl rfl rfl rfl (U1 (Nat.le_add_right _ _)) rfl) rfl<|es (ra1 rfl)<|C4 ?_
 obtain rfl:=os h
 exact retq trivial (M2 (A08 (ds:=[(.asl (H.length + 3) (List.length ([(VaVan.mk (ByteArray.mk #[114,101,100]) 5 100 [x1,x2]),(VaVan.mk (ByteArray.mk #[98,108,117,101]) 4 160 [x3,x4])]:List VaVan))),.i 2,.i 10,(.asl (H.length + 4) (List.length ([(VaCrate.mk (ByteArray.mk #[104,101,97,100,115]) 2 0 190),(VaCrate.mk (ByteArray.mk #[119,105,103,115]) 1 1 250),(VaCrate.mk (ByteArray.mk #[119,97,120]) 3 0 230),(VaCrate.mk (ByteArray.mk #[103,108,97,115,115]) 2 1 240)]:List VaCrate))),(.seq 2 (List.map C1 [(VaPair.mk 0 2)]))]) rfl rfl rfl rfl) B7) (A5 (B8o (R4 (B41 rfl (List.length_map _)) (R4 rfl (R4 rfl (R4 (B41 rfl (List.length_map _)) (R4 rfl C3o)))))) B6) (A1 (A85 rfl) A8)
def B6a  (s4:(Int × (List VaCrate))):Option ((Int × (List VaCrate)) ⊕ (List VaCrate)) :=
 if (decide (s4.1 < (List.length s4.2:Int))) = true then
  (idx s4.2 s4.1).bind fun x7 =>
  some (.inl ((w64 (s4.1 + 1)),(A1w s4.2 s4.1 (VaCrate.mk x7.Name x7.Size x7.Stop 400))))
 else
  some (.inr s4.2)
def B6s :Option VaTrain :=
 (B1l).bind fun x1 =>
 (slc x1.Vans 0 1).bind fun x2 =>
 (idx x2 0).bind fun x3 =>
 (loop B6a (0,x1.Crates)).bind fun (o8:(List VaCrate)) =>
 some (VaTrain.mk (A1w x2 0 (VaVan.mk x3.Name 9 x3.Leave x3.Legs)) x1.Stops x1.Handle o8 x1.Apart)
theorem C5q {c:Sc} {H:A6}  {r:VaTrain} (h:B6s  = some r) :
  F2 tab c H (.fn (.func 72) [] []) [] [(.agg [(.fresh 4 (List.map C0 r.Vans)),.i r.Stops,.i r.Handle,(.fresh 4 (List.map A9 r.Crates)),(.seq 2 (List.map C1 r.Apart))])]:= by
 unfold B6s at h
 refine cE rfl rfl<|sg 0 rfl<|A0 E6 rfl<|es (ra1 rfl)<|sg 1 rfl<|oB h fun x1 hx1 h=>C36 (vs:=[(.agg [(.asl (H.length + 1) (List.length x1.Vans)),.i x1.Stops,.i x1.Handle,(.asl (H.length + 2) (List.length x1.Crates)),(.seq 2 (List.map C1 x1.Apart))])]) rfl rfl B4 (B42 hx1) (D4a (D7q (A8d (D7l (r:=0) rfl (List.length_map _)) (A8d rfl (A8d rfl (A8d (D7l (r:=1) rfl (List.length_map _)) (A8d rfl D7k)))))) (D4b M5))<|A0 C3k rfl<|G6 (E2 (ds:=[(.asl (H.length + 1) (List.length x1.Vans)),.i x1.Stops,.i x1.Handle,(.asl (H.length + 2) (List.length x1.Crates)),(.seq 2 (List.map C1 x1.Apart))]) rfl rfl rfl rfl (U1 (Nat.le_add_right _ _)) rfl) rfl<|es (ra2 rfl rfl)<|sg 6 rfl<|oB h fun x2 hx2 h=>A0 (C3 rfl) rfl<|A0 (B5 (x:=(.asl (H.length + 1) (List.length x1.Vans))) rfl rfl rfl) rfl<|A35 (E3o (f:=C0) rfl rfl rfl rfl hx2) rfl<|A0 (C3 rfl) rfl<|G6 (E2 (ds:=[(.asl (H.length + 6) (List.length x2)),.i x1.Stops,.i x1.Handle,(.asl (H.length + 2) (List.length x1.Crates)),(.seq 2 (List.map C1 x1.Apart))]) rfl rfl rfl rfl (U1 (Nat.le_add_right _ _)) rfl) rfl<|es (ra2 rfl rfl)<|s0<|oB h fun x3 hx3 h=>A0 (C3 rfl) rfl<|A0 (B5 (x:=(.asl (H.length + 6) (List.length x2))) rfl rfl rfl) rfl<|A0 (V3 (f:=C0) rfl rfl rfl rfl hx3) rfl<|A0 (A8s rfl) rfl<|G6 (A4i (ds:=C0 (VaVan.mk x3.Name 9 x3.Leave x3.Legs)) rfl rfl rfl rfl rfl (List.length_map _) (V6 hx3) rfl rfl) rfl ?_
 rw [A3q]
 rw [show List.length x2 = List.length (A1w x2 0 (VaVan.mk x3.Name 9 x3.Leave x3.Legs)) from (T8 _ _ _).symm]
 refine es (ra2 rfl rfl)<|B3<|s0<|qm rfl<|es (ra3 rfl rfl rfl)<|B9<|oB h fun o8 ho8 h=>wl (fun s4=>[(0,(.ptr (H.length + 0) 0)),(1,(.ptr (H.length + 5) 0)),(2,.i s4.1)]) (fun (q5:Unit) s4=>[(.cells (A3 (VaTrain.mk ([]:List VaVan) 0 0 ([]:List VaCrate) ([]:List VaPair)))),.dead,(.arr 4 false (List.map A9 s4.2)),(.arr 4 false (List.map C0 ([]:List VaVan))),(.arr 4 false (List.map A9 ([]:List VaCrate))),(.cells [(.asl (H.length + 6) (List.length (A1w x2 0 (VaVan.mk x3.Name 9 x3.Leave x3.Legs)))),.i x1.Stops,.i x1.Handle,(.asl (H.length + 2) (List.length s4.2)),(.seq 2 (List.map C1 x1.Apart))]),(.arr 4 false (List.map C0 (A1w x2 0 (VaVan.mk x3.Name 9 x3.Leave x3.Legs))))]) 7 (fun r e s' H'=>PX 0 [(0,(.ptr (H.length + 0) 0)),(1,(.ptr (H.length + 5) 0))] (H++[(.cells (A3 (VaTrain.mk ([]:List VaVan) 0 0 ([]:List VaCrate) ([]:List VaPair)))),.dead,(.arr 4 false (List.map A9 r)),(.arr 4 false (List.map C0 ([]:List VaVan))),(.arr 4 false (List.map A9 ([]:List VaCrate))),(.cells [(.asl (H.length + 6) (List.length (A1w x2 0 (VaVan.mk x3.Name 9 x3.Leave x3.Legs)))),.i x1.Stops,.i x1.Handle,(.asl (H.length + 2) (List.length r)),(.seq 2 (List.map C1 x1.Apart))]),(.arr 4 false (List.map C0 (A1w x2 0 (VaVan.mk x3.Name 9 x3.Leave x3.Legs))))]) e s' H') () ho8 rfl rfl (fun _ _=>rfl) (fun _=>rfl) rfl (fun s4=>(bdc (D5 rfl) (bdc (D5 rfl) (bdc A4 bdn)))) (fun q5 s4 ys4 hs4=>?_) ?_
 ·unfold B6a at hs4
  refine B3<|s0<|qm rfl<|A0 (C3 rfl) rfl<|A0 (B5 (x:=(.asl (H.length + 2) (List.length s4.2))) rfl rfl rfl) rfl<|A0 (B6y (f:=A9) rfl rfl rfl) rfl<|A0 (F4 rfl rfl) rfl<|es (ra4 rfl rfl rfl rfl)<|wi hs4 rfl (fun hc6 hs4=>?_) fun hc6 hs4=>?_
  ·refine C2<|B3<|B9<|r0<|oB hs4 fun x7 hx7 hs4=>A0 (C3 rfl) rfl<|A0 (B5 (x:=(.asl (H.length + 2) (List.length s4.2))) rfl rfl rfl) rfl<|qm rfl<|A0 (V3 (f:=A9) rfl rfl rfl rfl hx7) rfl<|A0 (A8s rfl) rfl<|G6 (A4i (ds:=A9 (VaCrate.mk x7.Name x7.Size x7.Stop 400)) rfl rfl rfl rfl rfl (List.length_map _) (V6 hx7) rfl rfl) rfl ?_
   rw [A3q]
   rw [show List.length s4.2 = List.length (A1w s4.2 s4.1 (VaCrate.mk x7.Name x7.Size x7.Stop 400)) from (T8 _ _ _).symm]
   refine en (ra3 rfl rfl rfl)<|r0<|qm rfl<|A0 (D7 rfl rfl) rfl<|qm rfl<|en (ra3 rfl rfl rfl) ?_
   cases hs4
   exact lnT () rfl (su3 rfl rfl rfl)
  ·refine E3 ?_
   obtain rfl:=os hs4
   exact lx rfl px (su2 rfl rfl)
 ·rintro e s' H' - ⟨rfl,rfl,rfl⟩
  refine s0<|A0 (A08 (ds:=[(.asl (H.length + 6) (List.length (A1w x2 0 (VaVan.mk x3.Name 9 x3.Leave x3.Legs)))),.i x1.Stops,.i x1.Handle,(.asl (H.length + 2) (List.length o8)),(.seq 2 (List.map C1 x1.Apart))]) rfl rfl rfl rfl) rfl<|G6 (E2 (ds:=[(.asl (H.length + 6) (List.length (A1w x2 0 (VaVan.mk x3.Name 9 x3.Leave x3.Legs)))),.i x1.Stops,.i x1.Handle,(.asl (H.length + 2) (List.length o8)),(.seq 2 (List.map C1 x1.Apart))]) rfl rfl rfl rfl (U1 (Nat.le_add_right _ _)) rfl) rfl<|es (ra1 rfl)<|C4 ?_
  obtain rfl:=os h
  exact retq trivial (M2 (A08 (ds:=[(.asl (H.length + 6) (List.length (A1w x2 0 (VaVan.mk x3.Name 9 x3.Leave x3.Legs)))),.i x1.Stops,.i x1.Handle,(.asl (H.length + 2) (List.length o8)),(.seq 2 (List.map C1 x1.Apart))]) rfl rfl rfl rfl) B7) (A5 (B8o (R4 (B41 rfl (List.length_map _)) (R4 rfl (R4 rfl (R4 (B41 rfl (List.length_map _)) (R4 rfl C3o)))))) B6) (A1 (A85 rfl) A8)
def A6i :Option (List Int) :=
 some [0,0,1,0]
theorem A5z {c:Sc} {H:A6}  {r:(List Int)} (h:A6i  = some r) :
  F2 tab c H (.fn (.func 38) [] []) [] [(.seq 1 (List.map cI r))]:= by
 unfold A6i at h
 refine cE rfl rfl<|s0<|qm rfl<|es .n<|s0<|A0 (I8 (rows:=List.map cI [0,0,1,0]) rfl rfl (E4 (fun _=>rfl) _)) rfl<|qm rfl<|es (ra1 rfl)<|C4 ?_
 obtain rfl:=os h
 exact retq trivial (B1 rfl B7) (A5 rfl B6) (A1 D8 A8)
def A50 (a0:(List Int)) (a1:(List Int)) (s1:(Bool × Int)):Option ((Bool × Int) ⊕ Bool) :=
 if (s1.1 && (decide (s1.2 < (List.length a0:Int)))) = true then
  (idx a0 s1.2).bind fun x5 =>
  (idx a1 s1.2).bind fun x6 =>
  some (.inl ((x5 == x6),(w64 (s1.2 + 1))))
 else
  some (.inr s1.1)
def A01 (a0:(List Int)) (a1:(List Int)):Option Bool :=
 (loop (A50 a0 a1) (((List.length a0:Int) == (List.length a1:Int)),0)).bind fun (o7:Bool) =>
 some o7
theorem A1t {c:Sc} {H:A6} {a0:(List Int)} {a1:(List Int)} {r:Bool} (h:A01 a0 a1 = some r) :
  F2 tab c H (.fn (.func 20) [] []) [(.seq 1 (List.map cI a0)),(.seq 1 (List.map cI a1))] [.b r]:= by
 unfold A01 at h
 refine cE rfl rfl<|s0<|qm rfl<|es (ra2 rfl rfl)<|s0<|qm rfl<|A0 (D3 (f:=cI) rfl) rfl<|qm rfl<|A0 (D3 (f:=cI) rfl) rfl<|A0 (G7 rfl rfl) rfl<|qm rfl<|es (ra3 rfl rfl rfl)<|B3<|s0<|qm rfl<|es (ra4 rfl rfl rfl rfl)<|B9<|oB h fun o7 ho7 h=>wl (fun s1=>[(0,(.seq 1 (List.map cI a0))),(1,(.seq 1 (List.map cI a1))),(5,.b s1.1),(6,.i s1.2)]) (fun (q2:Unit) s1=>[]) 0 (fun r e s' H'=>PX 0 [(5,.b r)] (H++[]) e s' H') () ho7 rfl rfl (fun _ _=>rfl) (fun _=>rfl) rfl (fun s1=>(bdc D8 (bdc D8 (bdc A4 (bdc A4 bdn))))) (fun q2 s1 ys1 hs1=>?_) ?_
 ·unfold A50 at hs1
  refine B3<|s0<|qm rfl<|qm rfl<|gp 5 18 (.b (s1.1 && (decide (s1.2 < (List.length a0:Int))))) 13 rfl rfl (fun hg3=>?_) (fun hg3=>?_) ?_
  ·exact gT rfl hg3<|qm rfl<|gT rfl hg3<|qm rfl<|gT rfl hg3<|A0 (D3 (f:=cI) rfl) rfl<|gT rfl hg3<|A0 (F4 rfl rfl) rfl<|A0 (C8 rfl hg3 rfl) rfl<|ge 5 (by rw [hg3]; rfl) rfl rfl
  ·exact nT rfl hg3 rfl<|nT rfl hg3 rfl<|nT rfl hg3 rfl<|nT rfl hg3 rfl<|A0 (C7 rfl hg3 rfl) rfl<|ge 5 (by rw [hg3]; rfl) rfl rfl
  refine es (ra5 rfl rfl rfl rfl rfl)<|wi hs1 rfl (fun hc4 hs1=>?_) fun hc4 hs1=>?_
  ·refine C2<|B3<|B9<|r0<|oB hs1 fun x5 hx5 hs1=>oB hs1 fun x6 hx6 hs1=>qm rfl<|qm rfl<|A0 (D4 (f:=cI) rfl rfl hx5) rfl<|A0 (D6 rfl rfl) rfl<|qm rfl<|qm rfl<|A0 (D4 (f:=cI) rfl rfl hx6) rfl<|A0 (D6 rfl rfl) rfl<|A0 (G7 rfl rfl) rfl<|qm rfl<|en (ra4 rfl rfl rfl rfl)<|r0<|qm rfl<|A0 (D7 rfl rfl) rfl<|qm rfl<|en (ra4 rfl rfl rfl rfl) ?_
   cases hs1
   exact lnT () rfl (su4 rfl rfl rfl rfl)
  ·refine E3 ?_
   obtain rfl:=os hs1
   exact lx rfl px (su1 rfl)
 ·rintro e s' H' - ⟨rfl,rfl,rfl⟩
  refine s0<|qm rfl<|qm rfl<|es (ra1 rfl)<|C4 ?_
  obtain rfl:=os h
  exact retq trivial (B1 rfl B7) (A5 rfl B6) (A1 A4 A8)
def A4k (a0:(List Span)) (a1:(List Span)) (s1:(Bool × Int)):Option ((Bool × Int) ⊕ Bool) :=
 if (s1.1 && (decide (s1.2 < (List.length a0:Int)))) = true then
  (idx a0 s1.2).bind fun x5 =>
  (idx a1 s1.2).bind fun x6 =>
  some (.inl (((x5.Lo == x6.Lo) && ((x5.Hi == x6.Hi) && true)),(w64 (s1.2 + 1))))
 else
  some (.inr s1.1)
def A2u (a0:(List Span)) (a1:(List Span)):Option Bool :=
 (loop (A4k a0 a1) (((List.length a0:Int) == (List.length a1:Int)),0)).bind fun (o7:Bool) =>
 some o7
theorem A7g {c:Sc} {H:A6} {a0:(List Span)} {a1:(List Span)} {r:Bool} (h:A2u a0 a1 = some r) :
  F2 tab c H (.fn (.func 23) [] []) [(.seq 2 (List.map C6 a0)),(.seq 2 (List.map C6 a1))] [.b r]:= by
 unfold A2u at h
 refine cE rfl rfl<|s0<|qm rfl<|es (ra2 rfl rfl)<|s0<|qm rfl<|A0 (D3 (f:=C6) rfl) rfl<|qm rfl<|A0 (D3 (f:=C6) rfl) rfl<|A0 (G7 rfl rfl) rfl<|qm rfl<|es (ra3 rfl rfl rfl)<|B3<|s0<|qm rfl<|es (ra4 rfl rfl rfl rfl)<|B9<|oB h fun o7 ho7 h=>wl (fun s1=>[(0,(.seq 2 (List.map C6 a0))),(1,(.seq 2 (List.map C6 a1))),(5,.b s1.1),(6,.i s1.2)]) (fun (q2:Unit) s1=>[]) 0 (fun r e s' H'=>PX 0 [(5,.b r)] (H++[]) e s' H') () ho7 rfl rfl (fun _ _=>rfl) (fun _=>rfl) rfl (fun s1=>(bdc D8 (bdc D8 (bdc A4 (bdc A4 bdn))))) (fun q2 s1 ys1 hs1=>?_) ?_
 ·unfold A4k at hs1
  refine B3<|s0<|qm rfl<|qm rfl<|gp 5 18 (.b (s1.1 && (decide (s1.2 < (List.length a0:Int))))) 13 rfl rfl (fun hg3=>?_) (fun hg3=>?_) ?_
  ·exact gT rfl hg3<|qm rfl<|gT rfl hg3<|qm rfl<|gT rfl hg3<|A0 (D3 (f:=C6) rfl) rfl<|gT rfl hg3<|A0 (F4 rfl rfl) rfl<|A0 (C8 rfl hg3 rfl) rfl<|ge 5 (by rw [hg3]; rfl) rfl rfl
  ·exact nT rfl hg3 rfl<|nT rfl hg3 rfl<|nT rfl hg3 rfl<|nT rfl hg3 rfl<|A0 (C7 rfl hg3 rfl) rfl<|ge 5 (by rw [hg3]; rfl) rfl rfl
  refine es (ra5 rfl rfl rfl rfl rfl)<|wi hs1 rfl (fun hc4 hs1=>?_) fun hc4 hs1=>?_
  ·refine C2<|B3<|B9<|r0<|oB hs1 fun x5 hx5 hs1=>oB hs1 fun x6 hx6 hs1=>qm rfl<|qm rfl<|A0 (D4 (f:=C6) rfl rfl hx5) rfl<|A0 (K0 rfl rfl) rfl<|qm rfl<|qm rfl<|A0 (D4 (f:=C6) rfl rfl hx6) rfl<|A0 (K0 rfl rfl) rfl<|A0 (D2x (a:=C6 x5) (b:=C6 x6) rfl rfl rfl rfl (B3d (B3d C8f))) rfl<|qm rfl<|en (ra4 rfl rfl rfl rfl)<|r0<|qm rfl<|A0 (D7 rfl rfl) rfl<|qm rfl<|en (ra4 rfl rfl rfl rfl) ?_
   cases hs1
   exact lnT () rfl (su4 rfl rfl rfl rfl)
  ·refine E3 ?_
   obtain rfl:=os hs1
   exact lx rfl px (su1 rfl)
 ·rintro e s' H' - ⟨rfl,rfl,rfl⟩
  refine s0<|qm rfl<|qm rfl<|es (ra1 rfl)<|C4 ?_
  obtain rfl:=os h
  exact retq trivial (B1 rfl B7) (A5 rfl B6) (A1 A4 A8)
def A0a (a0:(List Int)) (g1:(Int→Option Bool)) (s1:Int):Option (Int ⊕ (Int ⊕ Unit)) :=
 if (decide (s1 < (List.length a0:Int))) = true then
  (idx a0 s1).bind fun x4 =>
  (g1 x4).bind fun x5 =>
  if x5 = true then
  some (.inr (.inl s1))
  else
  some (.inl (w64 (s1 + 1)))
 else
  some (.inr (.inr ()))
def A1x (a0:(List Int)) (g1:(Int→Option Bool)):Option Int :=
 (loop (A0a a0 g1) 0).bind fun (o7:(Int ⊕ Unit)) =>
 match o7 with
 | (.inl vo7_0) =>
  some vo7_0
 | (.inr vo7_1) =>
  some (-1)
theorem A9m {c:Sc} {H:A6} {a0:(List Int)} {g1:Int→Option Bool} {g1_i:Nat} {g1_f g1_c:List AV} (g1_h:Impl tab H g1_i g1_f g1_c g1 (fun y=>[.i y]) (fun y=>[.b y])) {r:Int} (h:A1x a0 g1 = some r) :
  F2 tab c H (.fn (.func 106) [] []) [(.seq 1 (List.map cI a0)),.fn (.func g1_i) g1_f g1_c] [.i r]:= by
 unfold A1x at h
 refine cE rfl rfl<|s0<|qm rfl<|es (ra2 rfl rfl)<|B3<|s0<|qm rfl<|A0 (D3 (f:=cI) rfl) rfl<|qm rfl<|es (ra4 rfl rfl rfl rfl)<|B9<|oB h fun o7 ho7 h=>wl (fun s1=>[(0,(.seq 1 (List.map cI a0))),(1,(.fn (.func g1_i) g1_f g1_c)),(7,(.i (List.length a0:Int))),(8,.i s1)]) (fun (q2:Unit) s1=>[]) 0 (fun r e s' H'=>(match r with | (.inl v)=>e = .ret∧RetQ H [.tmp 4] [.i v] e s' H' | (.inr v)=>PX 0 [] (H++[]) e s' H':Prop)) () ho7 rfl rfl (fun _ _=>rfl) (fun _=>rfl) rfl (fun s1=>(bdc D8 (bdc (D3s g1_h.1) (bdc A4 (bdc A4 bdn))))) (fun q2 s1 ys1 hs1=>?_) ?_
 ·unfold A0a at hs1
  refine s0<|A0 (F4 rfl rfl) rfl<|es (ra5 rfl rfl rfl rfl rfl)<|B3<|wi hs1 rfl (fun hc3 hs1=>?_) fun hc3 hs1=>?_
  ·refine C2<|B3<|B9<|s0<|qm rfl<|qm rfl<|es (ra5 rfl rfl rfl rfl rfl)<|s0<|oB hs1 fun x4 hx4 hs1=>oB hs1 fun x5 hx5 hs1=>qm rfl<|qm rfl<|qm rfl<|A0 (D4 (f:=cI) rfl rfl hx4) rfl<|A0 (D6 rfl rfl) rfl<|B2 (rs:=[.b x5]) rfl rfl (A2 rfl B4) (Impl.call g1_h hx5 _)<|es (ra6 rfl rfl rfl rfl rfl rfl)<|wi hs1 rfl (fun hc6 hs1=>?_) fun hc6 hs1=>?_
   ·refine s0<|qm rfl<|qm rfl<|es (ra1 rfl)<|C4 ?_
    obtain rfl:=os hs1
    exact lx rfl (And.intro rfl (retq trivial (B1 rfl B7) (A5 rfl B6) (A1 A4 A8))) (Sub.refl _)
   ·refine C2<|r0<|A0 (D7 rfl rfl) rfl<|qm rfl<|en (ra4 rfl rfl rfl rfl) ?_
    cases hs1
    exact lnT () rfl (su4 rfl rfl rfl rfl)
  ·refine E3 ?_
   obtain rfl:=os hs1
   exact lx rfl px (.nil _)
 ·rcases o7 with vo7_0 | vo7_1
  ·rintro e s' H' - ⟨rfl,hret⟩
   cases h
   exact hret
  ·rintro e s' H' - ⟨rfl,rfl,rfl⟩
   refine s0<|qm rfl<|es (ra1 rfl)<|C4 ?_
   obtain rfl:=os h
   exact retq trivial (B1 rfl B7) (A5 rfl B6) (A1 A4 A8)
def S8 (a0:(List Int)) (g1:(Int→Option Bool)):Option Bool :=
 (A1x a0 g1).bind fun x1 =>
 some (decide (x1 ≥ 0))
theorem A78 {c:Sc} {H:A6} {a0:(List Int)} {g1:Int→Option Bool} {g1_i:Nat} {g1_f g1_c:List AV} (g1_h:Impl tab H g1_i g1_f g1_c g1 (fun y=>[.i y]) (fun y=>[.b y])) {r:Bool} (h:S8 a0 g1 = some r) :
  F2 tab c H (.fn (.func 90) [] []) [(.seq 1 (List.map cI a0)),.fn (.func g1_i) g1_f g1_c] [.b r]:= by
 unfold S8 at h
 refine cE rfl rfl<|s0<|qm rfl<|es (ra2 rfl rfl)<|s0<|oB h fun x1 hx1 h=>qm rfl<|qm rfl<|B2 (rs:=[.i x1]) rfl rfl (A2 rfl (A2 rfl B4)) ((A9m (Impl.app g1_h _) hx1).frz)<|A0 (B1e rfl rfl) rfl<|qm rfl<|es (ra1 rfl)<|C4 ?_
 obtain rfl:=os h
 exact retq trivial (B1 rfl B7) (A5 rfl B6) (A1 A4 A8)
def A59 (a0:Int) (a1:Int) (a2:Int):Option Bool :=
 some ((decide (a0 < a1)) || (decide (a0 > a2)))
theorem B9y {c:Sc} {H:A6} {a0:Int} {a1:Int} {b1:Nat} (hb1:hcells H b1 = some (cI a1)) {a2:Int} {b2:Nat} (hb2:hcells H b2 = some (cI a2)) {r:Bool} (h:A59 a0 a1 a2 = some r) :
  F2 tab c H (.fn (.func 91) [] []) [.i a0,.ptr b1 0,.ptr b2 0] [.b r]:= by
 unfold A59 at h
 refine cE rfl rfl<|s0<|qm rfl<|es (ra3 rfl rfl rfl)<|s0<|qm rfl<|A0 (I0 rfl hb1 rfl) rfl<|A0 (F4 rfl rfl) rfl<|qm rfl<|gp 4 12 (.b ((decide (a0 < a1)) || (decide (a0 > a2)))) 8 rfl rfl (fun hg1=>?_) (fun hg1=>?_) ?_
 ·exact nF rfl hg1 rfl<|nF rfl hg1 rfl<|nF rfl hg1 rfl<|A0 (C8 rfl hg1 rfl) rfl<|ge 4 (by rw [hg1]; rfl) rfl rfl
 ·exact gF rfl hg1<|qm rfl<|gF rfl hg1<|A0 (I0 rfl hb2 rfl) rfl<|gF rfl hg1<|A0 (A37 rfl rfl) rfl<|A0 (C7 rfl hg1 rfl) rfl<|ge 4 (by rw [hg1]; rfl) rfl rfl
 refine qm rfl<|es (ra1 rfl)<|C4 ?_
 obtain rfl:=os h
 exact retq trivial (B1 rfl B7) (A5 rfl B6) (A1 A4 A8)
def G3 (a0:Int) (a1:Int) (a2:(List Int)):Option Bool :=
 (S8 a2 (fun (y:Int)=>A59 y a0 a1)).bind fun x1 =>
 some x1
theorem H7 {c:Sc} {H:A6} {a0:Int} {a1:Int} {a2:(List Int)} {r:Bool} (h:G3 a0 a1 a2 = some r) :
  F2 tab c H (.fn (.func 56) [] []) [.i a0,.i a1,(.seq 1 (List.map cI a2))] [.b r]:= by
 unfold G3 at h
 refine cE rfl rfl<|sg 0 rfl<|A0 (G0 (cs:=cI a0) rfl rfl rfl) rfl<|A0 (G0 (cs:=cI a1) rfl rfl rfl) rfl<|qm rfl<|es (ra3 rfl rfl rfl)<|s0<|oB h fun x1 hx1 h=>qm rfl<|A0 (A9a rfl rfl) rfl<|B2 (rs:=[.b x1]) rfl rfl (A2 rfl (A2 rfl B4)) ((A78 (show Impl _ _ 91 [] [(.ptr (H.length + 0) 0),(.ptr (H.length + 1) 0)] (fun (y:Int)=>A59 y a0 a1) (fun (y:Int)=>[.i y]) (fun (y:Bool)=>[.b y]) from ⟨⟨A8,(by rw [List.length_append]; exact (A1 (D5 rfl) (A1 (D5 rfl) A8)))⟩,fun H' hle hag c y r hr=>(A6w (B9y (hag _ _ (F3 rfl)) (hag _ _ (F3 rfl)) hr)).frz⟩) hx1).frz)<|qm rfl<|es (ra1 rfl)<|C4 ?_
 obtain rfl:=os h
 exact retq trivial (B1 rfl B7) (A5 rfl B6) (A1 A4 A8)
def A5x (a0:ByteArray) (s1:Nat):Option (Nat ⊕ (Bool ⊕ Nat)) :=
 if (decide (s1 < ByteArray.size a0)) = true then
  if ((!((decide (97≤((Utf8.decode a0 s1).1:Int))) && (decide (((Utf8.decode a0 s1).1:Int)≤122)))) && (((s1:Int) == 0) || ((((Utf8.decode a0 s1).1:Int) != 46) && ((decide (((Utf8.decode a0 s1).1:Int) < 48)) || (decide (((Utf8.decode a0 s1).1:Int) > 57)))))) = true then
  some (.inr (.inl false))
  else
  some (.inl (s1 + (Utf8.decode a0 s1).2))
 else
  some (.inr (.inr s1))
def A76 (a0:ByteArray):Option Bool :=
 (loop (A5x a0) (0:Nat)).bind fun (o10:(Bool ⊕ Nat)) =>
 match o10 with
 | (.inl vo10_0) =>
  some vo10_0
 | (.inr vo10_1) =>
  some ((!eqS a0 (ByteArray.mk #[])) && (decide ((ByteArray.size a0:Int)≤16)))
theorem B6f {c:Sc} {H:A6} {a0:ByteArray} {r:Bool} (h:A76 a0 = some r) :
  F2 tab c H (.fn (.func 107) [] []) [.s a0] [.b r]:= by
 unfold A76 at h
 refine cE rfl rfl<|s0<|qm rfl<|es (ra1 rfl)<|B3<|sg 0 rfl<|qm rfl<|A0 (E0i rfl) rfl<|es (ra2 rfl rfl)<|B9<|oB h fun o10 ho10 h=>wl (fun s1=>[(0,.s a0),(7,(.itr (H.length + 0)))]) (fun (q2:Unit) s1=>[.iter a0 s1]) 1 (fun r e s' H'=>(match r with | (.inl v)=>e = .ret∧RetQ H [.tmp 2] [.b v] e s' H' | (.inr v)=>PX 0 [(0,.s a0)] (H++[.iter a0 v]) e s' H':Prop)) () ho10 rfl rfl (fun _ _=>rfl) (fun _=>rfl) rfl (fun s1=>(bdc A4 (bdc (E1r rfl) bdn))) (fun q2 s1 ys1 hs1=>?_) ?_
 ·unfold A5x at hs1
  by_cases hc3:(decide (s1 < ByteArray.size a0)) = true
  ·rw [if_pos hc3] at hs1
   refine s0<|A35 (E0h rfl rfl (of_decide_eq_true hc3)) rfl<|A0 (A7 rfl rfl) rfl<|es (ra4 rfl rfl rfl rfl)<|B3<|N0 rfl rfl<|C2<|B9<|s0<|A0 (A7 rfl rfl) rfl<|A0 (A7 rfl rfl) rfl<|qm rfl<|qm rfl<|es (ra4 rfl rfl rfl rfl)<|s0<|qm rfl<|A0 (A8p rfl rfl) rfl<|qm rfl<|gp 3 17 (.b ((decide (97≤((Utf8.decode a0 s1).1:Int))) && (decide (((Utf8.decode a0 s1).1:Int)≤122)))) 14 rfl rfl (fun hg4=>?_) (fun hg4=>?_) ?_
   ·exact gT rfl hg4<|qm rfl<|gT rfl hg4<|A0 (A8p rfl rfl) rfl<|A0 (C8 rfl hg4 rfl) rfl<|ge 3 (by rw [hg4]; rfl) rfl rfl
   ·exact nT rfl hg4 rfl<|nT rfl hg4 rfl<|A0 (C7 rfl hg4 rfl) rfl<|ge 3 (by rw [hg4]; rfl) rfl rfl
   refine qm rfl<|es (ra5 rfl rfl rfl rfl rfl)<|s0<|qm rfl<|A0 (O3 rfl) rfl<|qm rfl<|gp 15 35 (.b ((!((decide (97≤((Utf8.decode a0 s1).1:Int))) && (decide (((Utf8.decode a0 s1).1:Int)≤122)))) && (((s1:Int) == 0) || ((((Utf8.decode a0 s1).1:Int) != 46) && ((decide (((Utf8.decode a0 s1).1:Int) < 48)) || (decide (((Utf8.decode a0 s1).1:Int) > 57))))))) 20 rfl rfl (fun hg5=>?_) (fun hg5=>?_) ?_
   ·refine gT rfl hg5<|qm rfl<|gT rfl hg5<|A0 (G7 rfl rfl) rfl<|gT rfl hg5<|qm rfl<|gq 11 34 (.b (((s1:Int) == 0) || ((((Utf8.decode a0 s1).1:Int) != 46) && ((decide (((Utf8.decode a0 s1).1:Int) < 48)) || (decide (((Utf8.decode a0 s1).1:Int) > 57)))))) 23 rfl rfl (fun hg6=>?_) (fun hg6=>?_) ?_
    ·exact nF rfl hg6 rfl<|nF rfl hg6 rfl<|nF rfl hg6 rfl<|nX rfl rfl<|nX rfl rfl<|nX rfl rfl<|nX rfl rfl<|nX rfl rfl<|nX rfl rfl<|nF rfl hg6 rfl<|gT rfl hg5<|A0 (C8 rfl hg6 rfl) rfl<|ge 11 (by rw [hg6]; rfl) rfl rfl
    ·refine gF rfl hg6<|qm rfl<|gF rfl hg6<|A0 (F8 rfl rfl) rfl<|gF rfl hg6<|qm rfl<|gq 7 33 (.b ((((Utf8.decode a0 s1).1:Int) != 46) && ((decide (((Utf8.decode a0 s1).1:Int) < 48)) || (decide (((Utf8.decode a0 s1).1:Int) > 57))))) 26 rfl rfl (fun hg7=>?_) (fun hg7=>?_) ?_
     ·refine gT rfl hg7<|qm rfl<|gT rfl hg7<|A0 (F4 rfl rfl) rfl<|gT rfl hg7<|qm rfl<|gq 3 32 (.b ((decide (((Utf8.decode a0 s1).1:Int) < 48)) || (decide (((Utf8.decode a0 s1).1:Int) > 57)))) 29 rfl rfl (fun hg8=>?_) (fun hg8=>?_) ?_
      ·exact nF rfl hg8 rfl<|nF rfl hg8 rfl<|gT rfl hg7<|A0 (C8 rfl hg8 rfl) rfl<|ge 3 (by rw [hg8]; rfl) rfl rfl
      ·exact gF rfl hg8<|qm rfl<|gF rfl hg8<|A0 (A37 rfl rfl) rfl<|gT rfl hg7<|A0 (C7 rfl hg8 rfl) rfl<|ge 3 (by rw [hg8]; rfl) rfl rfl
      exact gF rfl hg6<|A0 (C8 rfl hg7 rfl) rfl<|ge 5 (by rw [hg7]; rfl) rfl rfl
     ·exact nT rfl hg7 rfl<|nT rfl hg7 rfl<|nT rfl hg7 rfl<|nX rfl rfl<|nX rfl rfl<|nT rfl hg7 rfl<|gF rfl hg6<|A0 (C7 rfl hg7 rfl) rfl<|ge 7 (by rw [hg7]; rfl) rfl rfl
     exact gT rfl hg5<|A0 (C7 rfl hg6 rfl) rfl<|ge 5 (by rw [hg6]; rfl) rfl rfl
    exact A0 (C8 rfl hg5 rfl) rfl<|ge 5 (by rw [hg5]; rfl) rfl rfl
   ·exact nT rfl hg5 rfl<|nT rfl hg5 rfl<|nT rfl hg5 rfl<|nX rfl rfl<|nX rfl rfl<|nX rfl rfl<|nX rfl rfl<|nX rfl rfl<|nX rfl rfl<|nX rfl rfl<|nX rfl rfl<|nX rfl rfl<|nX rfl rfl<|nT rfl hg5 rfl<|A0 (C7 rfl hg5 rfl) rfl<|ge 15 (by rw [hg5]; rfl) rfl rfl
   refine es (ra3 rfl rfl rfl)<|wi hs1 rfl (fun hc9 hs1=>?_) fun hc9 hs1=>?_
   ·refine s0<|qm rfl<|es (ra1 rfl)<|C4 ?_
    obtain rfl:=os hs1
    exact lx rfl (And.intro rfl (retq trivial (B1 rfl B7) (A5 rfl B6) (A1 A4 A8))) (Sub.refl _)
   ·refine C2 ?_
    cases hs1
    exact lnT () rfl (su2 rfl rfl)
  ·rw [if_neg hc3] at hs1
   refine s0<|A35 (E0g rfl rfl (fun hn=>hc3 (decide_eq_true hn))) rfl<|A0 (A7 rfl rfl) rfl<|es (ra4 rfl rfl rfl rfl)<|B3<|A0c rfl rfl<|E3 ?_
   obtain rfl:=os hs1
   exact lx rfl px (su1 rfl)
 ·rcases o10 with vo10_0 | vo10_1
  ·rintro e s' H' - ⟨rfl,hret⟩
   cases h
   exact hret
  ·rintro e s' H' - ⟨rfl,rfl,rfl⟩
   refine s0<|qm rfl<|A0 (E3c rfl rfl) rfl<|qm rfl<|gp 4 42 (.b ((!eqS a0 (ByteArray.mk #[])) && (decide ((ByteArray.size a0:Int)≤16)))) 38 rfl rfl (fun hg11=>?_) (fun hg11=>?_) ?_
   ·exact gT rfl hg11<|qm rfl<|gT rfl hg11<|A0 (C8y rfl) rfl<|gT rfl hg11<|A0 (A8p rfl rfl) rfl<|A0 (C8 rfl hg11 rfl) rfl<|ge 4 (by rw [hg11]; rfl) rfl rfl
   ·exact nT rfl hg11 rfl<|nT rfl hg11 rfl<|nT rfl hg11 rfl<|A0 (C7 rfl hg11 rfl) rfl<|ge 4 (by rw [hg11]; rfl) rfl rfl
   refine qm rfl<|es (ra1 rfl)<|C4 ?_
   obtain rfl:=os h
   exact retq trivial (B1 rfl B7) (A5 rfl B6) (A1 A4 A8)
def N2 (a0:(List VaCrate)) (g1:(VaCrate→Option Bool)) (s1:Int):Option (Int ⊕ (Int ⊕ Unit)) :=
 if (decide (s1 < (List.length a0:Int))) = true then
  (idx a0 s1).bind fun x4 =>
  (g1 x4).bind fun x5 =>
  if x5 = true then
  some (.inr (.inl s1))
  else
  some (.inl (w64 (s1 + 1)))
 else
  some (.inr (.inr ()))
def O5 (a0:(List VaCrate)) (g1:(VaCrate→Option Bool)):Option Int :=
 (loop (N2 a0 g1) 0).bind fun (o7:(Int ⊕ Unit)) =>
 match o7 with
 | (.inl vo7_0) =>
  some vo7_0
 | (.inr vo7_1) =>
  some (-1)
theorem A2t {c:Sc} {H:A6} {a0:(List VaCrate)} {g1:VaCrate→Option Bool} {g1_i:Nat} {g1_f g1_c:List AV} (g1_h:Impl tab H g1_i g1_f g1_c g1 (fun y=>[(.agg (A9 y))]) (fun y=>[.b y])) {r:Int} (h:O5 a0 g1 = some r) :
  F2 tab c H (.fn (.func 118) [] []) [(.seq 4 (List.map A9 a0)),.fn (.func g1_i) g1_f g1_c] [.i r]:= by
 unfold O5 at h
 refine cE rfl rfl<|s0<|qm rfl<|es (ra2 rfl rfl)<|B3<|s0<|qm rfl<|A0 (D3 (f:=A9) rfl) rfl<|qm rfl<|es (ra4 rfl rfl rfl rfl)<|B9<|oB h fun o7 ho7 h=>wl (fun s1=>[(0,(.seq 4 (List.map A9 a0))),(1,(.fn (.func g1_i) g1_f g1_c)),(7,(.i (List.length a0:Int))),(8,.i s1)]) (fun (q2:Unit) s1=>[]) 0 (fun r e s' H'=>(match r with | (.inl v)=>e = .ret∧RetQ H [.tmp 4] [.i v] e s' H' | (.inr v)=>PX 0 [] (H++[]) e s' H':Prop)) () ho7 rfl rfl (fun _ _=>rfl) (fun _=>rfl) rfl (fun s1=>(bdc D8 (bdc (D3s g1_h.1) (bdc A4 (bdc A4 bdn))))) (fun q2 s1 ys1 hs1=>?_) ?_
 ·unfold N2 at hs1
  refine s0<|A0 (F4 rfl rfl) rfl<|es (ra5 rfl rfl rfl rfl rfl)<|B3<|wi hs1 rfl (fun hc3 hs1=>?_) fun hc3 hs1=>?_
  ·refine C2<|B3<|B9<|s0<|qm rfl<|qm rfl<|es (ra5 rfl rfl rfl rfl rfl)<|s0<|oB hs1 fun x4 hx4 hs1=>oB hs1 fun x5 hx5 hs1=>qm rfl<|qm rfl<|qm rfl<|A0 (D4 (f:=A9) rfl rfl hx4) rfl<|A0 (K0 rfl rfl) rfl<|B2 (rs:=[.b x5]) rfl rfl (A2 (D2 rfl) B4) (Impl.call g1_h hx5 _)<|es (ra6 rfl rfl rfl rfl rfl rfl)<|wi hs1 rfl (fun hc6 hs1=>?_) fun hc6 hs1=>?_
   ·refine s0<|qm rfl<|qm rfl<|es (ra1 rfl)<|C4 ?_
    obtain rfl:=os hs1
    exact lx rfl (And.intro rfl (retq trivial (B1 rfl B7) (A5 rfl B6) (A1 A4 A8))) (Sub.refl _)
   ·refine C2<|r0<|A0 (D7 rfl rfl) rfl<|qm rfl<|en (ra4 rfl rfl rfl rfl) ?_
    cases hs1
    exact lnT () rfl (su4 rfl rfl rfl rfl)
  ·refine E3 ?_
   obtain rfl:=os hs1
   exact lx rfl px (.nil _)
 ·rcases o7 with vo7_0 | vo7_1
  ·rintro e s' H' - ⟨rfl,hret⟩
   cases h
   exact hret
  ·rintro e s' H' - ⟨rfl,rfl,rfl⟩
   refine s0<|qm rfl<|es (ra1 rfl)<|C4 ?_
   obtain rfl:=os h
   exact retq trivial (B1 rfl B7) (A5 rfl B6) (A1 A4 A8)
def J2 (a0:(List VaCrate)) (g1:(VaCrate→Option Bool)):Option Bool :=
 (O5 a0 g1).bind fun x1 =>
 some (decide (x1 ≥ 0))
theorem A1u {c:Sc} {H:A6} {a0:(List VaCrate)} {g1:VaCrate→Option Bool} {g1_i:Nat} {g1_f g1_c:List AV} (g1_h:Impl tab H g1_i g1_f g1_c g1 (fun y=>[(.agg (A9 y))]) (fun y=>[.b y])) {r:Bool} (h:J2 a0 g1 = some r) :
  F2 tab c H (.fn (.func 110) [] []) [(.seq 4 (List.map A9 a0)),.fn (.func g1_i) g1_f g1_c] [.b r]:= by
 unfold J2 at h
 refine cE rfl rfl<|s0<|qm rfl<|es (ra2 rfl rfl)<|s0<|oB h fun x1 hx1 h=>qm rfl<|qm rfl<|B2 (rs:=[.i x1]) rfl rfl (A2 rfl (A2 rfl B4)) ((A2t (Impl.app g1_h _) hx1).frz)<|A0 (B1e rfl rfl) rfl<|qm rfl<|es (ra1 rfl)<|C4 ?_
 obtain rfl:=os h
 exact retq trivial (B1 rfl B7) (A5 rfl B6) (A1 A4 A8)
def S6 (a0:VaCrate) (g1:(VaCrate→Option ByteArray)) (a2:(List VaCrate)) (a3:Int):Option Bool :=
 (g1 a0).bind fun x1 =>
 (idx a2 a3).bind fun x2 =>
 (g1 x2).bind fun x3 =>
 some (eqS x1 x3)
theorem B0s {c:Sc} {H:A6} {a0:VaCrate} {g1:VaCrate→Option ByteArray} {g1_i:Nat} {g1_f g1_c:List AV} (g1_h:Impl tab H g1_i g1_f g1_c g1 (fun y=>[(.agg (A9 y))]) (fun y=>[.s y])) {b1:Nat} (hb1:hcells H b1 = some [.fn (.func g1_i) g1_f g1_c]) {a2:(List VaCrate)} {b2:Nat} (hb2:hcells H b2 = some ((cL 4 A9) a2)) {a3:Int} {b3:Nat} (hb3:hcells H b3 = some (cI a3)) {r:Bool} (h:S6 a0 g1 a2 a3 = some r) :
  F2 tab c H (.fn (.func 111) [] []) [(.agg (A9 a0)),.ptr b1 0,.ptr b2 0,.ptr b3 0] [.b r]:= by
 unfold S6 at h
 refine cE rfl rfl<|sg 0 rfl<|A0 (G0 (cs:=A9 a0) rfl rfl rfl) rfl<|qm rfl<|es (ra4 rfl rfl rfl rfl)<|s0<|oB h fun x1 hx1 h=>oB h fun x2 hx2 h=>oB h fun x3 hx3 h=>A0 (I0 (x:=(.fn (.func g1_i) g1_f g1_c)) rfl hb1 rfl) rfl<|A0 (C5 rfl rfl rfl) rfl<|M6 (rs:=[.s x1]) rfl rfl (F1 rfl R7) (A2 (D2 rfl) B4) (Impl.callP g1_h hx1 _)<|A0 (I0 (x:=(.fn (.func g1_i) g1_f g1_c)) rfl hb1 rfl) rfl<|A0 (I0 rfl hb2 rfl) rfl<|A0 (I0 rfl hb3 rfl) rfl<|A0 (D4 (f:=A9) rfl rfl hx2) rfl<|A0 (K0 rfl rfl) rfl<|B2 (rs:=[.s x3]) rfl rfl (A2 (D2 rfl) B4) (Impl.call g1_h hx3 _)<|A0 (D6q rfl rfl) rfl<|qm rfl<|es (ra1 rfl)<|C4 ?_
 obtain rfl:=os h
 exact retq trivial (B1 rfl B7) (A5 rfl B6) (A1 A4 A8)
def U5 (a0:(List VaCrate)) (a1:Int) (g2:(VaCrate→Option ByteArray)):Option Int :=
 (idx a0 a1).bind fun x1 =>
 (g2 x1).bind fun x2 =>
 (A76 x2).bind fun x3 =>
 if (!x3) = true then
  some 6
 else
  (slc a0 0 a1).bind fun x5 =>
  (J2 x5 (fun (y:VaCrate)=>S6 y g2 a0 a1)).bind fun x6 =>
  if x6 = true then
  some 5
  else
  some 0
theorem B13 {c:Sc} {H:A6} {a0:(List VaCrate)} {a1:Int} {g2:VaCrate→Option ByteArray} {g2_i:Nat} {g2_f g2_c:List AV} (g2_h:Impl tab H g2_i g2_f g2_c g2 (fun y=>[(.agg (A9 y))]) (fun y=>[.s y])) {r:Int} (h:U5 a0 a1 g2 = some r) :
  F2 tab c H (.fn (.func 94) [] []) [(.seq 4 (List.map A9 a0)),.i a1,.fn (.func g2_i) g2_f g2_c] [.i r]:= by
 unfold U5 at h
 refine cE rfl rfl<|sg 0 rfl<|A0 (G0 (cs:=(cL 4 A9) a0) rfl rfl rfl) rfl<|A0 (G0 (cs:=cI a1) rfl rfl rfl) rfl<|A0 (G0 (cs:=[(.fn (.func g2_i) g2_f g2_c)]) rfl rfl rfl) rfl<|qm rfl<|es (ra3 rfl rfl rfl)<|B3<|B9<|s0<|oB h fun x1 hx1 h=>oB h fun x2 hx2 h=>oB h fun x3 hx3 h=>A0 (B5 (x:=(.fn (.func g2_i) g2_f g2_c)) rfl rfl rfl) rfl<|A0 (B5 rfl rfl rfl) rfl<|A0 (B5 rfl rfl rfl) rfl<|A0 (D4 (f:=A9) rfl rfl hx1) rfl<|A0 (K0 rfl rfl) rfl<|B2 (rs:=[.s x2]) rfl rfl (A2 (D2 rfl) B4) (Impl.call g2_h hx2 _)<|B2 (rs:=[.b x3]) rfl rfl (A2 rfl B4) ((B6f hx3).frz)<|A0 (O3 rfl) rfl<|qm rfl<|es (ra4 rfl rfl rfl rfl)<|wi h rfl (fun hc4 h=>?_) fun hc4 h=>?_
 ·refine s0<|qm rfl<|es (ra1 rfl)<|C4 ?_
  obtain rfl:=os h
  exact retq trivial (B1 rfl B7) (A5 rfl B6) (A1 A4 A8)
 ·refine s0<|oB h fun x5 hx5 h=>oB h fun x6 hx6 h=>A0 (B5 rfl rfl rfl) rfl<|A0 (B5 rfl rfl rfl) rfl<|A0 (C3n (f:=A9) rfl rfl rfl hx5) rfl<|A0 (A9a rfl rfl) rfl<|B2 (rs:=[.b x6]) rfl rfl (A2 rfl (A2 rfl B4)) ((A1u (show Impl _ _ 111 [] [(.ptr (H.length + 2) 0),(.ptr (H.length + 0) 0),(.ptr (H.length + 1) 0)] (fun (y:VaCrate)=>S6 y g2 a0 a1) (fun (y:VaCrate)=>[(.agg (A9 y))]) (fun (y:Bool)=>[.b y]) from ⟨⟨A8,(by rw [List.length_append]; exact (A1 (D5 rfl) (A1 (D5 rfl) (A1 (D5 rfl) A8))))⟩,fun H' hle hag c y r hr=>(A6w (B0s (Impl.mono (Impl.app g2_h _) hle hag) (hag _ _ (F3 rfl)) (hag _ _ (F3 rfl)) (hag _ _ (F3 rfl)) hr)).frz⟩) hx6).frz)<|qm rfl<|es (ra1 rfl)<|wi h rfl (fun hc7 h=>?_) fun hc7 h=>?_
  ·refine s0<|qm rfl<|es (ra1 rfl)<|C4 ?_
   obtain rfl:=os h
   exact retq trivial (B1 rfl B7) (A5 rfl B6) (A1 A4 A8)
  ·refine C2<|s0<|qm rfl<|es (ra1 rfl)<|C4 ?_
   obtain rfl:=os h
   exact retq trivial (B1 rfl B7) (A5 rfl B6) (A1 A4 A8)
def Y0 (a0:VaCrate):Option ByteArray :=
 some a0.Name
theorem B43 {c:Sc} {H:A6} {a0:VaCrate} {r:ByteArray} (h:Y0 a0 = some r) :
  F2 tab c H (.fn (.func 95) [] []) [(.agg (A9 a0))] [.s r]:= by
 unfold Y0 at h
 refine cE rfl rfl<|sg 0 rfl<|A0 (G0 (cs:=A9 a0) rfl rfl rfl) rfl<|qm rfl<|es (ra1 rfl)<|s0<|A0 (C3 rfl) rfl<|A0 (B5 rfl rfl rfl) rfl<|qm rfl<|es (ra1 rfl)<|C4 ?_
 obtain rfl:=os h
 exact retq trivial (B1 rfl B7) (A5 rfl B6) (A1 A4 A8)
def A3v (a0:van_train) (a1:Int):Option Int :=
 (idx a0.VaTrain.Crates a1).bind fun x1 =>
 (U5 a0.VaTrain.Crates a1 (fun (y:VaCrate)=>Y0 y)).bind fun x2 =>
 (if (x2 == 0) = true then
  (G3 1 9 [x1.Size]).bind fun x4 =>
  (if x4 = true then
  some true
  else
  (G3 0 (w64 (a0.VaTrain.Stops - 1)) [x1.Stop]).bind fun x6 =>
  some x6).bind fun x7 =>
  (if x7 = true then
  some true
  else
  (G3 0 5000 [x1.By]).bind fun x9 =>
  some x9).bind fun x10 =>
  some x10
 else
  some false).bind fun x11 =>
 if x11 = true then
  some 7
 else
  some x2
theorem B62 {c:Sc} {H:A6} {a0:van_train} {m0_5:AV} {b0:Nat} (hb0:hcells H b0 = some [(.seq 4 (List.map C0 a0.VaTrain.Vans)),.i a0.VaTrain.Stops,.i a0.VaTrain.Handle,(.seq 4 (List.map A9 a0.VaTrain.Crates)),(.seq 2 (List.map C1 a0.VaTrain.Apart)),m0_5]) {a1:Int} {r:Int} (h:A3v a0 a1 = some r) :
  F2 tab c H (.fn (.func 58) [] []) [.ptr b0 0,.i a1] [.i r]:= by
 unfold A3v at h
 refine cE rfl rfl<|s0<|qm rfl<|es (ra2 rfl rfl)<|sg 0 rfl<|oB h fun x1 hx1 h=>qm rfl<|A0 (M9 rfl rfl) rfl<|A0 (C3 rfl) rfl<|A0 (C3 rfl) rfl<|A0 (I0 (x:=(.seq 4 (List.map A9 a0.VaTrain.Crates))) rfl hb0 rfl) rfl<|qm rfl<|A0 (D4 (f:=A9) rfl rfl hx1) rfl<|A0 (K0 rfl rfl) rfl<|A0 E6 rfl<|G6 (E2 (ds:=(A9 x1)) rfl rfl rfl rfl (E1 rfl) rfl) rfl<|es (ra3 rfl rfl rfl)<|s0<|oB h fun x2 hx2 h=>qm rfl<|A0 (M9 rfl rfl) rfl<|A0 (C3 rfl) rfl<|A0 (C3 rfl) rfl<|A0 (I0 (x:=(.seq 4 (List.map A9 a0.VaTrain.Crates))) rfl hb0 rfl) rfl<|qm rfl<|B2 (rs:=[.i x2]) rfl rfl (A2 rfl (A2 rfl (A2 rfl B4))) ((B13 (show Impl _ _ 95 [] [] (fun (y:VaCrate)=>Y0 y) (fun (y:VaCrate)=>[(.agg (A9 y))]) (fun (y:ByteArray)=>[.s y]) from ⟨⟨A8,A8⟩,fun H' hle hag c y r hr=>(B43 hr).frz⟩) hx2).frz)<|qm rfl<|es (ra3 rfl rfl rfl)<|B3<|s0<|oB h fun x11 hx11 h=>qm rfl<|A0 (G7 rfl rfl) rfl<|qm rfl<|gp 23 47 (.b x11) 24 rfl rfl (fun hg3=>?_) (fun hg3=>?_) ?_
 ·refine oB (bt hx11 hg3) fun x4 hx4 hx11=>oB hx11 fun x7 hx7 hx11=>oB hx11 fun x10 hx10 hx11=>?_
  obtain rfl:=os hx11
  refine gT rfl hg3<|A0 (C3 rfl) rfl<|gT rfl hg3<|A0 (B5 rfl rfl rfl) rfl<|gT rfl hg3<|A0 (I8 (rows:=List.map cI [x1.Size]) rfl rfl (E4 (fun _=>rfl) _)) rfl<|gT rfl hg3<|B2 (rs:=[.b x4]) rfl rfl (A2 rfl (A2 rfl (A2 rfl B4))) ((H7 hx4).frz)<|gT rfl hg3<|qm rfl<|gq 11 40 (.b x7) 29 rfl rfl (fun hg5=>?_) (fun hg5=>?_) ?_
  ·obtain rfl:=os (bt hx7 hg5)
   exact nF rfl hg5 rfl<|nF rfl hg5 rfl<|nF rfl hg5 rfl<|nF rfl hg5 rfl<|nF rfl hg5 rfl<|nF rfl hg5 rfl<|nF rfl hg5 rfl<|nF rfl hg5 rfl<|nF rfl hg5 rfl<|H8 (E9 rfl (by rw [hg5]; rfl)) rfl<|gT rfl hg3<|A0 (C8 rfl hg5 rfl) rfl<|ge 11 rfl rfl rfl
  ·refine oB (bf hx7 hg5) fun x6 hx6 hx7=>?_
   obtain rfl:=os hx7
   exact gF rfl hg5<|qm rfl<|gF rfl hg5<|A0 (M9 rfl rfl) rfl<|gF rfl hg5<|A0 (C3 rfl) rfl<|gF rfl hg5<|A0 (C3 rfl) rfl<|gF rfl hg5<|A0 (I0 (x:=(.i a0.VaTrain.Stops)) rfl hb0 rfl) rfl<|gF rfl hg5<|A0 (O0 rfl rfl) rfl<|gF rfl hg5<|A0 (C3 rfl) rfl<|gF rfl hg5<|A0 (B5 rfl rfl rfl) rfl<|gF rfl hg5<|A0 (I8 (rows:=List.map cI [x1.Stop]) rfl rfl (E4 (fun _=>rfl) _)) rfl<|gF rfl hg5<|B2 (rs:=[.b x6]) rfl rfl (A2 rfl (A2 rfl (A2 rfl B4))) ((H7 hx6).frz)<|gT rfl hg3<|A0 (C7 rfl hg5 rfl) rfl<|ge 11 rfl rfl rfl
  refine gT rfl hg3<|qm rfl<|gq 5 46 (.b x10) 41 rfl rfl (fun hg8=>?_) (fun hg8=>?_) ?_
  ·obtain rfl:=os (bt hx10 hg8)
   exact nF rfl hg8 rfl<|nF rfl hg8 rfl<|nF rfl hg8 rfl<|H8 (E9 rfl (by rw [hg8]; rfl)) rfl<|gT rfl hg3<|A0 (C8 rfl hg8 rfl) rfl<|ge 5 rfl rfl rfl
  ·refine oB (bf hx10 hg8) fun x9 hx9 hx10=>?_
   obtain rfl:=os hx10
   exact gF rfl hg8<|A0 (C3 rfl) rfl<|gF rfl hg8<|A0 (B5 rfl rfl rfl) rfl<|gF rfl hg8<|A0 (I8 (rows:=List.map cI [x1.By]) rfl rfl (E4 (fun _=>rfl) _)) rfl<|gF rfl hg8<|B2 (rs:=[.b x9]) rfl rfl (A2 rfl (A2 rfl (A2 rfl B4))) ((H7 hx9).frz)<|gT rfl hg3<|A0 (C7 rfl hg8 rfl) rfl<|ge 5 rfl rfl rfl
  exact A0 (C8 rfl hg3 rfl) rfl<|ge 9 rfl rfl rfl
 ·obtain rfl:=os (bf hx11 hg3)
  exact nT rfl hg3 rfl<|nT rfl hg3 rfl<|nT rfl hg3 rfl<|H8 (E9 rfl (by rw [hg3]; rfl)) rfl<|nT rfl hg3 rfl<|nX rfl rfl<|nX rfl rfl<|nX rfl rfl<|nX rfl rfl<|nX rfl rfl<|nX rfl rfl<|nX rfl rfl<|nX rfl rfl<|nX rfl rfl<|H8 (Y3 rfl) rfl<|nT rfl hg3 rfl<|nT rfl hg3 rfl<|nX rfl rfl<|nX rfl rfl<|nX rfl rfl<|H8 (Y3 rfl) rfl<|nT rfl hg3 rfl<|A0 (C7 rfl hg3 rfl) rfl<|ge 23 rfl rfl rfl
 refine es (ra2 rfl rfl)<|wi h rfl (fun hc12 h=>?_) fun hc12 h=>?_
 ·refine s0<|qm rfl<|es (ra1 rfl)<|C4 ?_
  obtain rfl:=os h
  exact retq trivial (B1 rfl B7) (A5 rfl B6) (A1 A4 A8)
 ·refine C2<|s0<|qm rfl<|qm rfl<|es (ra1 rfl)<|C4 ?_
  obtain rfl:=os h
  exact retq trivial (B1 rfl B7) (A5 rfl B6) (A1 A4 A8)
def A4x (a0:van_train) (a1:Int):Option Int :=
 (idx a0.VaTrain.Apart a1).bind fun x1 =>
 (G3 0 (w64 ((List.length a0.VaTrain.Crates:Int) - 1)) [x1.A,x1.B]).bind fun x2 =>
 if x2 = true then
  some 4
 else
  if (decide (x1.A ≥ x1.B)) = true then
  some 2
  else
  some 0
theorem B8m {c:Sc} {H:A6} {a0:van_train} {m0_5:AV} {b0:Nat} (hb0:hcells H b0 = some [(.seq 4 (List.map C0 a0.VaTrain.Vans)),.i a0.VaTrain.Stops,.i a0.VaTrain.Handle,(.seq 4 (List.map A9 a0.VaTrain.Crates)),(.seq 2 (List.map C1 a0.VaTrain.Apart)),m0_5]) {a1:Int} {r:Int} (h:A4x a0 a1 = some r) :
  F2 tab c H (.fn (.func 59) [] []) [.ptr b0 0,.i a1] [.i r]:= by
 unfold A4x at h
 refine cE rfl rfl<|s0<|qm rfl<|es (ra2 rfl rfl)<|sg 0 rfl<|oB h fun x1 hx1 h=>qm rfl<|A0 (M9 rfl rfl) rfl<|A0 (C3 rfl) rfl<|A0 (C3 rfl) rfl<|A0 (I0 (x:=(.seq 2 (List.map C1 a0.VaTrain.Apart))) rfl hb0 rfl) rfl<|qm rfl<|A0 (D4 (f:=C1) rfl rfl hx1) rfl<|A0 (K0 rfl rfl) rfl<|A0 E6 rfl<|G6 (E2 (ds:=(C1 x1)) rfl rfl rfl rfl (E1 rfl) rfl) rfl<|es (ra2 rfl rfl)<|B3<|B9<|s0<|oB h fun x2 hx2 h=>qm rfl<|A0 (M9 rfl rfl) rfl<|A0 (C3 rfl) rfl<|A0 (C3 rfl) rfl<|A0 (I0 (x:=(.seq 4 (List.map A9 a0.VaTrain.Crates))) rfl hb0 rfl) rfl<|A0 (D3 (f:=A9) rfl) rfl<|A0 (O0 rfl rfl) rfl<|A0 (C3 rfl) rfl<|A0 (B5 rfl rfl rfl) rfl<|A0 (C3 rfl) rfl<|A0 (B5 rfl rfl rfl) rfl<|A0 (I8 (rows:=List.map cI [x1.A,x1.B]) rfl rfl (E4 (fun _=>rfl) _)) rfl<|B2 (rs:=[.b x2]) rfl rfl (A2 rfl (A2 rfl (A2 rfl B4))) ((H7 hx2).frz)<|qm rfl<|es (ra2 rfl rfl)<|wi h rfl (fun hc3 h=>?_) fun hc3 h=>?_
 ·refine s0<|qm rfl<|es (ra1 rfl)<|C4 ?_
  obtain rfl:=os h
  exact retq trivial (B1 rfl B7) (A5 rfl B6) (A1 A4 A8)
 ·refine s0<|A0 (C3 rfl) rfl<|A0 (B5 rfl rfl rfl) rfl<|A0 (C3 rfl) rfl<|A0 (B5 rfl rfl rfl) rfl<|A0 (B1e rfl rfl) rfl<|qm rfl<|es (ra1 rfl)<|wi h rfl (fun hc4 h=>?_) fun hc4 h=>?_
  ·refine s0<|qm rfl<|es (ra1 rfl)<|C4 ?_
   obtain rfl:=os h
   exact retq trivial (B1 rfl B7) (A5 rfl B6) (A1 A4 A8)
  ·refine C2<|s0<|qm rfl<|es (ra1 rfl)<|C4 ?_
   obtain rfl:=os h
   exact retq trivial (B1 rfl B7) (A5 rfl B6) (A1 A4 A8)
def O6 (a0:(List VaVan)) (g1:(VaVan→Option Bool)) (s1:Int):Option (Int ⊕ (Int ⊕ Unit)) :=
 if (decide (s1 < (List.length a0:Int))) = true then
  (idx a0 s1).bind fun x4 =>
  (g1 x4).bind fun x5 =>
  if x5 = true then
  some (.inr (.inl s1))
  else
  some (.inl (w64 (s1 + 1)))
 else
  some (.inr (.inr ()))
def Q6 (a0:(List VaVan)) (g1:(VaVan→Option Bool)):Option Int :=
 (loop (O6 a0 g1) 0).bind fun (o7:(Int ⊕ Unit)) =>
 match o7 with
 | (.inl vo7_0) =>
  some vo7_0
 | (.inr vo7_1) =>
  some (-1)
theorem A39 {c:Sc} {H:A6} {a0:(List VaVan)} {g1:VaVan→Option Bool} {g1_i:Nat} {g1_f g1_c:List AV} (g1_h:Impl tab H g1_i g1_f g1_c g1 (fun y=>[(.agg (C0 y))]) (fun y=>[.b y])) {r:Int} (h:Q6 a0 g1 = some r) :
  F2 tab c H (.fn (.func 117) [] []) [(.seq 4 (List.map C0 a0)),.fn (.func g1_i) g1_f g1_c] [.i r]:= by
 unfold Q6 at h
 refine cE rfl rfl<|s0<|qm rfl<|es (ra2 rfl rfl)<|B3<|s0<|qm rfl<|A0 (D3 (f:=C0) rfl) rfl<|qm rfl<|es (ra4 rfl rfl rfl rfl)<|B9<|oB h fun o7 ho7 h=>wl (fun s1=>[(0,(.seq 4 (List.map C0 a0))),(1,(.fn (.func g1_i) g1_f g1_c)),(7,(.i (List.length a0:Int))),(8,.i s1)]) (fun (q2:Unit) s1=>[]) 0 (fun r e s' H'=>(match r with | (.inl v)=>e = .ret∧RetQ H [.tmp 4] [.i v] e s' H' | (.inr v)=>PX 0 [] (H++[]) e s' H':Prop)) () ho7 rfl rfl (fun _ _=>rfl) (fun _=>rfl) rfl (fun s1=>(bdc D8 (bdc (D3s g1_h.1) (bdc A4 (bdc A4 bdn))))) (fun q2 s1 ys1 hs1=>?_) ?_
 ·unfold O6 at hs1
  refine s0<|A0 (F4 rfl rfl) rfl<|es (ra5 rfl rfl rfl rfl rfl)<|B3<|wi hs1 rfl (fun hc3 hs1=>?_) fun hc3 hs1=>?_
  ·refine C2<|B3<|B9<|s0<|qm rfl<|qm rfl<|es (ra5 rfl rfl rfl rfl rfl)<|s0<|oB hs1 fun x4 hx4 hs1=>oB hs1 fun x5 hx5 hs1=>qm rfl<|qm rfl<|qm rfl<|A0 (D4 (f:=C0) rfl rfl hx4) rfl<|A0 (K0 rfl rfl) rfl<|B2 (rs:=[.b x5]) rfl rfl (A2 (D2 rfl) B4) (Impl.call g1_h hx5 _)<|es (ra6 rfl rfl rfl rfl rfl rfl)<|wi hs1 rfl (fun hc6 hs1=>?_) fun hc6 hs1=>?_
   ·refine s0<|qm rfl<|qm rfl<|es (ra1 rfl)<|C4 ?_
    obtain rfl:=os hs1
    exact lx rfl (And.intro rfl (retq trivial (B1 rfl B7) (A5 rfl B6) (A1 A4 A8))) (Sub.refl _)
   ·refine C2<|r0<|A0 (D7 rfl rfl) rfl<|qm rfl<|en (ra4 rfl rfl rfl rfl) ?_
    cases hs1
    exact lnT () rfl (su4 rfl rfl rfl rfl)
  ·refine E3 ?_
   obtain rfl:=os hs1
   exact lx rfl px (.nil _)
 ·rcases o7 with vo7_0 | vo7_1
  ·rintro e s' H' - ⟨rfl,hret⟩
   cases h
   exact hret
  ·rintro e s' H' - ⟨rfl,rfl,rfl⟩
   refine s0<|qm rfl<|es (ra1 rfl)<|C4 ?_
   obtain rfl:=os h
   exact retq trivial (B1 rfl B7) (A5 rfl B6) (A1 A4 A8)
def K9 (a0:(List VaVan)) (g1:(VaVan→Option Bool)):Option Bool :=
 (Q6 a0 g1).bind fun x1 =>
 some (decide (x1 ≥ 0))
theorem A28 {c:Sc} {H:A6} {a0:(List VaVan)} {g1:VaVan→Option Bool} {g1_i:Nat} {g1_f g1_c:List AV} (g1_h:Impl tab H g1_i g1_f g1_c g1 (fun y=>[(.agg (C0 y))]) (fun y=>[.b y])) {r:Bool} (h:K9 a0 g1 = some r) :
  F2 tab c H (.fn (.func 108) [] []) [(.seq 4 (List.map C0 a0)),.fn (.func g1_i) g1_f g1_c] [.b r]:= by
 unfold K9 at h
 refine cE rfl rfl<|s0<|qm rfl<|es (ra2 rfl rfl)<|s0<|oB h fun x1 hx1 h=>qm rfl<|qm rfl<|B2 (rs:=[.i x1]) rfl rfl (A2 rfl (A2 rfl B4)) ((A39 (Impl.app g1_h _) hx1).frz)<|A0 (B1e rfl rfl) rfl<|qm rfl<|es (ra1 rfl)<|C4 ?_
 obtain rfl:=os h
 exact retq trivial (B1 rfl B7) (A5 rfl B6) (A1 A4 A8)
def U6 (a0:VaVan) (g1:(VaVan→Option ByteArray)) (a2:(List VaVan)) (a3:Int):Option Bool :=
 (g1 a0).bind fun x1 =>
 (idx a2 a3).bind fun x2 =>
 (g1 x2).bind fun x3 =>
 some (eqS x1 x3)
theorem B14 {c:Sc} {H:A6} {a0:VaVan} {g1:VaVan→Option ByteArray} {g1_i:Nat} {g1_f g1_c:List AV} (g1_h:Impl tab H g1_i g1_f g1_c g1 (fun y=>[(.agg (C0 y))]) (fun y=>[.s y])) {b1:Nat} (hb1:hcells H b1 = some [.fn (.func g1_i) g1_f g1_c]) {a2:(List VaVan)} {b2:Nat} (hb2:hcells H b2 = some ((cL 4 C0) a2)) {a3:Int} {b3:Nat} (hb3:hcells H b3 = some (cI a3)) {r:Bool} (h:U6 a0 g1 a2 a3 = some r) :
  F2 tab c H (.fn (.func 109) [] []) [(.agg (C0 a0)),.ptr b1 0,.ptr b2 0,.ptr b3 0] [.b r]:= by
 unfold U6 at h
 refine cE rfl rfl<|sg 0 rfl<|A0 (G0 (cs:=C0 a0) rfl rfl rfl) rfl<|qm rfl<|es (ra4 rfl rfl rfl rfl)<|s0<|oB h fun x1 hx1 h=>oB h fun x2 hx2 h=>oB h fun x3 hx3 h=>A0 (I0 (x:=(.fn (.func g1_i) g1_f g1_c)) rfl hb1 rfl) rfl<|A0 (C5 rfl rfl rfl) rfl<|M6 (rs:=[.s x1]) rfl rfl (F1 rfl R7) (A2 (D2 rfl) B4) (Impl.callP g1_h hx1 _)<|A0 (I0 (x:=(.fn (.func g1_i) g1_f g1_c)) rfl hb1 rfl) rfl<|A0 (I0 rfl hb2 rfl) rfl<|A0 (I0 rfl hb3 rfl) rfl<|A0 (D4 (f:=C0) rfl rfl hx2) rfl<|A0 (K0 rfl rfl) rfl<|B2 (rs:=[.s x3]) rfl rfl (A2 (D2 rfl) B4) (Impl.call g1_h hx3 _)<|A0 (D6q rfl rfl) rfl<|qm rfl<|es (ra1 rfl)<|C4 ?_
 obtain rfl:=os h
 exact retq trivial (B1 rfl B7) (A5 rfl B6) (A1 A4 A8)
def Y7 (a0:(List VaVan)) (a1:Int) (g2:(VaVan→Option ByteArray)):Option Int :=
 (idx a0 a1).bind fun x1 =>
 (g2 x1).bind fun x2 =>
 (A76 x2).bind fun x3 =>
 if (!x3) = true then
  some 6
 else
  (slc a0 0 a1).bind fun x5 =>
  (K9 x5 (fun (y:VaVan)=>U6 y g2 a0 a1)).bind fun x6 =>
  if x6 = true then
  some 5
  else
  some 0
theorem B3p {c:Sc} {H:A6} {a0:(List VaVan)} {a1:Int} {g2:VaVan→Option ByteArray} {g2_i:Nat} {g2_f g2_c:List AV} (g2_h:Impl tab H g2_i g2_f g2_c g2 (fun y=>[(.agg (C0 y))]) (fun y=>[.s y])) {r:Int} (h:Y7 a0 a1 g2 = some r) :
  F2 tab c H (.fn (.func 92) [] []) [(.seq 4 (List.map C0 a0)),.i a1,.fn (.func g2_i) g2_f g2_c] [.i r]:= by
 unfold Y7 at h
 refine cE rfl rfl<|sg 0 rfl<|A0 (G0 (cs:=(cL 4 C0) a0) rfl rfl rfl) rfl<|A0 (G0 (cs:=cI a1) rfl rfl rfl) rfl<|A0 (G0 (cs:=[(.fn (.func g2_i) g2_f g2_c)]) rfl rfl rfl) rfl<|qm rfl<|es (ra3 rfl rfl rfl)<|B3<|B9<|s0<|oB h fun x1 hx1 h=>oB h fun x2 hx2 h=>oB h fun x3 hx3 h=>A0 (B5 (x:=(.fn (.func g2_i) g2_f g2_c)) rfl rfl rfl) rfl<|A0 (B5 rfl rfl rfl) rfl<|A0 (B5 rfl rfl rfl) rfl<|A0 (D4 (f:=C0) rfl rfl hx1) rfl<|A0 (K0 rfl rfl) rfl<|B2 (rs:=[.s x2]) rfl rfl (A2 (D2 rfl) B4) (Impl.call g2_h hx2 _)<|B2 (rs:=[.b x3]) rfl rfl (A2 rfl B4) ((B6f hx3).frz)<|A0 (O3 rfl) rfl<|qm rfl<|es (ra4 rfl rfl rfl rfl)<|wi h rfl (fun hc4 h=>?_) fun hc4 h=>?_
 ·refine s0<|qm rfl<|es (ra1 rfl)<|C4 ?_
  obtain rfl:=os h
  exact retq trivial (B1 rfl B7) (A5 rfl B6) (A1 A4 A8)
 ·refine s0<|oB h fun x5 hx5 h=>oB h fun x6 hx6 h=>A0 (B5 rfl rfl rfl) rfl<|A0 (B5 rfl rfl rfl) rfl<|A0 (C3n (f:=C0) rfl rfl rfl hx5) rfl<|A0 (A9a rfl rfl) rfl<|B2 (rs:=[.b x6]) rfl rfl (A2 rfl (A2 rfl B4)) ((A28 (show Impl _ _ 109 [] [(.ptr (H.length + 2) 0),(.ptr (H.length + 0) 0),(.ptr (H.length + 1) 0)] (fun (y:VaVan)=>U6 y g2 a0 a1) (fun (y:VaVan)=>[(.agg (C0 y))]) (fun (y:Bool)=>[.b y]) from ⟨⟨A8,(by rw [List.length_append]; exact (A1 (D5 rfl) (A1 (D5 rfl) (A1 (D5 rfl) A8))))⟩,fun H' hle hag c y r hr=>(A6w (B14 (Impl.mono (Impl.app g2_h _) hle hag) (hag _ _ (F3 rfl)) (hag _ _ (F3 rfl)) (hag _ _ (F3 rfl)) hr)).frz⟩) hx6).frz)<|qm rfl<|es (ra1 rfl)<|wi h rfl (fun hc7 h=>?_) fun hc7 h=>?_
  ·refine s0<|qm rfl<|es (ra1 rfl)<|C4 ?_
   obtain rfl:=os h
   exact retq trivial (B1 rfl B7) (A5 rfl B6) (A1 A4 A8)
  ·refine C2<|s0<|qm rfl<|es (ra1 rfl)<|C4 ?_
   obtain rfl:=os h
   exact retq trivial (B1 rfl B7) (A5 rfl B6) (A1 A4 A8)
def A1g (a0:VaVan):Option ByteArray :=
 some a0.Name
theorem B63 {c:Sc} {H:A6} {a0:VaVan} {r:ByteArray} (h:A1g a0 = some r) :
  F2 tab c H (.fn (.func 93) [] []) [(.agg (C0 a0))] [.s r]:= by
 unfold A1g at h
 refine cE rfl rfl<|sg 0 rfl<|A0 (G0 (cs:=C0 a0) rfl rfl rfl) rfl<|qm rfl<|es (ra1 rfl)<|s0<|A0 (C3 rfl) rfl<|A0 (B5 rfl rfl rfl) rfl<|qm rfl<|es (ra1 rfl)<|C4 ?_
 obtain rfl:=os h
 exact retq trivial (B1 rfl B7) (A5 rfl B6) (A1 A4 A8)
def A2s (x1:VaVan) (s10:Int):Option (Int ⊕ (Int ⊕ Unit)) :=
 if (decide (s10 < (List.length x1.Legs:Int))) = true then
  (idx x1.Legs s10).bind fun x13 =>
  (G3 0 600 [x13.Lo,x13.Hi]).bind fun x14 =>
  if x14 = true then
  some (.inr (.inl 7))
  else
  if (decide (x13.Lo > x13.Hi)) = true then
   some (.inr (.inl 2))
  else
   some (.inl (w64 (s10 + 1)))
 else
  some (.inr (.inr ()))
def A6a (a0:van_train) (a1:Int):Option Int :=
 (idx a0.VaTrain.Vans a1).bind fun x1 =>
 (Y7 a0.VaTrain.Vans a1 (fun (y:VaVan)=>A1g y)).bind fun x2 =>
 if (x2 != 0) = true then
  some x2
 else
  (G3 0 20 [x1.Room]).bind fun x4 =>
  (if x4 = true then
  some true
  else
  (G3 0 5000 [x1.Leave]).bind fun x6 =>
  some x6).bind fun x7 =>
  if x7 = true then
  some 7
  else
  if ((List.length x1.Legs:Int) != a0.VaTrain.Stops) = true then
   some 3
  else
   (loop (A2s x1) 0).bind fun (o17:(Int ⊕ Unit)) =>
   match o17 with
   | (.inl vo17_0) =>
   some vo17_0
   | (.inr vo17_1) =>
   some 0
theorem B9z {c:Sc} {H:A6} {a0:van_train} {m0_5:AV} {b0:Nat} (hb0:hcells H b0 = some [(.seq 4 (List.map C0 a0.VaTrain.Vans)),.i a0.VaTrain.Stops,.i a0.VaTrain.Handle,(.seq 4 (List.map A9 a0.VaTrain.Crates)),(.seq 2 (List.map C1 a0.VaTrain.Apart)),m0_5]) {a1:Int} {r:Int} (h:A6a a0 a1 = some r) :
  F2 tab c H (.fn (.func 57) [] []) [.ptr b0 0,.i a1] [.i r]:= by
 unfold A6a at h
 refine cE rfl rfl<|s0<|qm rfl<|es (ra2 rfl rfl)<|sg 0 rfl<|oB h fun x1 hx1 h=>qm rfl<|A0 (M9 rfl rfl) rfl<|A0 (C3 rfl) rfl<|A0 (C3 rfl) rfl<|A0 (I0 (x:=(.seq 4 (List.map C0 a0.VaTrain.Vans))) rfl hb0 rfl) rfl<|qm rfl<|A0 (D4 (f:=C0) rfl rfl hx1) rfl<|A0 (K0 rfl rfl) rfl<|A0 E6 rfl<|G6 (E2 (ds:=(C0 x1)) rfl rfl rfl rfl (E1 rfl) rfl) rfl<|es (ra3 rfl rfl rfl)<|s0<|oB h fun x2 hx2 h=>qm rfl<|A0 (M9 rfl rfl) rfl<|A0 (C3 rfl) rfl<|A0 (C3 rfl) rfl<|A0 (I0 (x:=(.seq 4 (List.map C0 a0.VaTrain.Vans))) rfl hb0 rfl) rfl<|qm rfl<|B2 (rs:=[.i x2]) rfl rfl (A2 rfl (A2 rfl (A2 rfl B4))) ((B3p (show Impl _ _ 93 [] [] (fun (y:VaVan)=>A1g y) (fun (y:VaVan)=>[(.agg (C0 y))]) (fun (y:ByteArray)=>[.s y]) from ⟨⟨A8,A8⟩,fun H' hle hag c y r hr=>(B63 hr).frz⟩) hx2).frz)<|qm rfl<|es (ra3 rfl rfl rfl)<|B3<|B9<|s0<|qm rfl<|A0 (F8 rfl rfl) rfl<|qm rfl<|es (ra4 rfl rfl rfl rfl)<|wi h rfl (fun hc3 h=>?_) fun hc3 h=>?_
 ·refine s0<|qm rfl<|qm rfl<|es (ra1 rfl)<|C4 ?_
  obtain rfl:=os h
  exact retq trivial (B1 rfl B7) (A5 rfl B6) (A1 A4 A8)
 ·refine s0<|oB h fun x4 hx4 h=>oB h fun x7 hx7 h=>A0 (C3 rfl) rfl<|A0 (B5 rfl rfl rfl) rfl<|A0 (I8 (rows:=List.map cI [x1.Room]) rfl rfl (E4 (fun _=>rfl) _)) rfl<|B2 (rs:=[.b x4]) rfl rfl (A2 rfl (A2 rfl (A2 rfl B4))) ((H7 hx4).frz)<|qm rfl<|gp 5 38 (.b x7) 33 rfl rfl (fun hg5=>?_) (fun hg5=>?_) ?_
  ·obtain rfl:=os (bt hx7 hg5)
   exact nF rfl hg5 rfl<|nF rfl hg5 rfl<|nF rfl hg5 rfl<|H8 (E9 rfl (by rw [hg5]; rfl)) rfl<|A0 (C8 rfl hg5 rfl) rfl<|ge 5 rfl rfl rfl
  ·refine oB (bf hx7 hg5) fun x6 hx6 hx7=>?_
   obtain rfl:=os hx7
   exact gF rfl hg5<|A0 (C3 rfl) rfl<|gF rfl hg5<|A0 (B5 rfl rfl rfl) rfl<|gF rfl hg5<|A0 (I8 (rows:=List.map cI [x1.Leave]) rfl rfl (E4 (fun _=>rfl) _)) rfl<|gF rfl hg5<|B2 (rs:=[.b x6]) rfl rfl (A2 rfl (A2 rfl (A2 rfl B4))) ((H7 hx6).frz)<|A0 (C7 rfl hg5 rfl) rfl<|ge 5 rfl rfl rfl
  refine qm rfl<|es (ra3 rfl rfl rfl)<|wi h rfl (fun hc8 h=>?_) fun hc8 h=>?_
  ·refine s0<|qm rfl<|es (ra1 rfl)<|C4 ?_
   obtain rfl:=os h
   exact retq trivial (B1 rfl B7) (A5 rfl B6) (A1 A4 A8)
  ·refine s0<|A0 (C3 rfl) rfl<|A0 (B5 rfl rfl rfl) rfl<|A0 (D3 (f:=C6) rfl) rfl<|qm rfl<|A0 (M9 rfl rfl) rfl<|A0 (C3 rfl) rfl<|A0 (C3 rfl) rfl<|A0 (I0 (x:=(.i a0.VaTrain.Stops)) rfl hb0 rfl) rfl<|A0 (F8 rfl rfl) rfl<|qm rfl<|es (ra2 rfl rfl)<|wi h rfl (fun hc9 h=>?_) fun hc9 h=>?_
   ·refine s0<|qm rfl<|es (ra1 rfl)<|C4 ?_
    obtain rfl:=os h
    exact retq trivial (B1 rfl B7) (A5 rfl B6) (A1 A4 A8)
   ·refine C2<|B3<|s0<|A0 (C3 rfl) rfl<|A0 (B5 rfl rfl rfl) rfl<|A0 (D3 (f:=C6) rfl) rfl<|qm rfl<|es (ra3 rfl rfl rfl)<|B9<|oB h fun o17 ho17 h=>wl (fun s10=>[(50,(.seq 2 (List.map C6 x1.Legs))),(51,(.i (List.length x1.Legs:Int))),(52,.i s10)]) (fun (q11:Unit) s10=>[(.cells (C0 x1))]) 1 (fun r e s' H'=>(match r with | (.inl v)=>e = .ret∧RetQ H [.tmp 4] [.i v] e s' H' | (.inr v)=>PX 1 [] (H++[(.cells (C0 x1))]) e s' H':Prop)) () ho17 rfl rfl (fun _ _=>rfl) (fun _=>rfl) rfl (fun s10=>(bdc D8 (bdc A4 (bdc A4 bdn)))) (fun q11 s10 ys10 hs10=>?_) ?_
    ·unfold A2s at hs10
     refine s0<|A0 (F4 rfl rfl) rfl<|es (ra4 rfl rfl rfl rfl)<|B3<|wi hs10 rfl (fun hc12 hs10=>?_) fun hc12 hs10=>?_
     ·refine C2<|B3<|B9<|sg 1 rfl<|oB hs10 fun x13 hx13 hs10=>A0 (D4 (f:=C6) rfl rfl hx13) rfl<|A0 (K0 rfl rfl) rfl<|A0 E6 rfl<|G6 (E2 (ds:=(C6 x13)) rfl rfl rfl rfl (E1 rfl) rfl) rfl<|es (ra4 rfl rfl rfl rfl)<|B9<|s0<|oB hs10 fun x14 hx14 hs10=>A0 (C3 rfl) rfl<|A0 (B5 rfl rfl rfl) rfl<|A0 (C3 rfl) rfl<|A0 (B5 rfl rfl rfl) rfl<|A0 (I8 (rows:=List.map cI [x13.Lo,x13.Hi]) rfl rfl (E4 (fun _=>rfl) _)) rfl<|B2 (rs:=[.b x14]) rfl rfl (A2 rfl (A2 rfl (A2 rfl B4))) ((H7 hx14).frz)<|qm rfl<|es (ra5 rfl rfl rfl rfl rfl)<|wi hs10 rfl (fun hc15 hs10=>?_) fun hc15 hs10=>?_
      ·refine s0<|qm rfl<|es (ra1 rfl)<|C4 ?_
       obtain rfl:=os hs10
       exact lx rfl (And.intro rfl (retq trivial (B1 rfl B7) (A5 rfl B6) (A1 A4 A8))) (Sub.refl _)
      ·refine s0<|A0 (C3 rfl) rfl<|A0 (B5 rfl rfl rfl) rfl<|A0 (C3 rfl) rfl<|A0 (B5 rfl rfl rfl) rfl<|A0 (A37 rfl rfl) rfl<|qm rfl<|es (ra4 rfl rfl rfl rfl)<|wi hs10 rfl (fun hc16 hs10=>?_) fun hc16 hs10=>?_
       ·refine s0<|qm rfl<|es (ra1 rfl)<|C4 ?_
        obtain rfl:=os hs10
        exact lx rfl (And.intro rfl (retq trivial (B1 rfl B7) (A5 rfl B6) (A1 A4 A8))) (Sub.refl _)
       ·refine C2<|r0<|A0 (D7 rfl rfl) rfl<|qm rfl<|en (ra3 rfl rfl rfl) ?_
        cases hs10
        exact lnT () rfl (su3 rfl rfl rfl)
     ·refine E3 ?_
      obtain rfl:=os hs10
      exact lx rfl px (.nil _)
    ·rcases o17 with vo17_0 | vo17_1
     ·rintro e s' H' - ⟨rfl,hret⟩
      cases h
      exact hret
     ·rintro e s' H' - ⟨rfl,rfl,rfl⟩
      refine s0<|qm rfl<|es (ra1 rfl)<|C4 ?_
      obtain rfl:=os h
      exact retq trivial (B1 rfl B7) (A5 rfl B6) (A1 A4 A8)
def A7v (a0:VaTrain) (s8:Int):Option (Int ⊕ ((Int × Int × Int) ⊕ Unit)) :=
 if (decide (s8 < (List.length a0.Vans:Int))) = true then
  (A6a (van_train.mk a0) s8).bind fun x11 =>
  if (x11 != 0) = true then
  some (.inr (.inl (2,s8,x11)))
  else
  some (.inl (w64 (s8 + 1)))
 else
  some (.inr (.inr ()))
def A7w (a0:VaTrain) (s16:Int):Option (Int ⊕ ((Int × Int × Int) ⊕ Unit)) :=
 if (decide (s16 < (List.length a0.Crates:Int))) = true then
  (A3v (van_train.mk a0) s16).bind fun x19 =>
  if (x19 != 0) = true then
  some (.inr (.inl (3,s16,x19)))
  else
  some (.inl (w64 (s16 + 1)))
 else
  some (.inr (.inr ()))
def A7x (a0:VaTrain) (s24:Int):Option (Int ⊕ ((Int × Int × Int) ⊕ Unit)) :=
 if (decide (s24 < (List.length a0.Apart:Int))) = true then
  (A4x (van_train.mk a0) s24).bind fun x27 =>
  if (x27 != 0) = true then
  some (.inr (.inl (4,s24,x27)))
  else
  some (.inl (w64 (s24 + 1)))
 else
  some (.inr (.inr ()))
def V8 (a0:VaTrain):Option (Int × Int × Int) :=
 (G3 1 3 [a0.Stops]).bind fun x1 =>
 (if x1 = true then
  some true
 else
  (G3 0 60 [a0.Handle]).bind fun x3 =>
  some x3).bind fun x4 =>
 if x4 = true then
  some (1,0,7)
 else
  (G3 1 3 [(List.length a0.Vans:Int)]).bind fun x6 =>
  if x6 = true then
  some (2,0,3)
  else
  (loop (A7v a0) 0).bind fun (o13:((Int × Int × Int) ⊕ Unit)) =>
  match o13 with
  | (.inl vo13_0) =>
   some vo13_0
  | (.inr vo13_1) =>
   (G3 0 6 [(List.length a0.Crates:Int)]).bind fun x14 =>
   if x14 = true then
   some (3,0,3)
   else
   (loop (A7w a0) 0).bind fun (o21:((Int × Int × Int) ⊕ Unit)) =>
   match o21 with
   | (.inl vo21_0) =>
    some vo21_0
   | (.inr vo21_1) =>
    (G3 0 4 [(List.length a0.Apart:Int)]).bind fun x22 =>
    if x22 = true then
    some (4,0,3)
    else
    (loop (A7x a0) 0).bind fun (o29:((Int × Int × Int) ⊕ Unit)) =>
    match o29 with
    | (.inl vo29_0) =>
     some vo29_0
    | (.inr vo29_1) =>
     some (0,0,0)
theorem Z5 {c:Sc} {H:A6} {a0:VaTrain} {r:(Int × Int × Int)} (h:V8 a0 = some r) :
  F2 tab c H (.fn (.func 16) [] []) [(.agg (A3 a0))] [.i r.1,.i r.2.1,.i r.2.2]:= by
 unfold V8 at h
 refine cE rfl rfl<|sg 0 rfl<|A0 (G0 (cs:=A3 a0) rfl rfl rfl) rfl<|qm rfl<|qm rfl<|qm rfl<|es (ra1 rfl)<|B3<|s0<|oB h fun x1 hx1 h=>oB h fun x4 hx4 h=>A0 (C3 rfl) rfl<|A0 (B5 rfl rfl rfl) rfl<|A0 (I8 (rows:=List.map cI [a0.Stops]) rfl rfl (E4 (fun _=>rfl) _)) rfl<|B2 (rs:=[.b x1]) rfl rfl (A2 rfl (A2 rfl (A2 rfl B4))) ((H7 hx1).frz)<|qm rfl<|gp 5 18 (.b x4) 13 rfl rfl (fun hg2=>?_) (fun hg2=>?_) ?_
 ·obtain rfl:=os (bt hx4 hg2)
  exact nF rfl hg2 rfl<|nF rfl hg2 rfl<|nF rfl hg2 rfl<|H8 (E9 rfl (by rw [hg2]; rfl)) rfl<|A0 (C8 rfl hg2 rfl) rfl<|ge 5 rfl rfl rfl
 ·refine oB (bf hx4 hg2) fun x3 hx3 hx4=>?_
  obtain rfl:=os hx4
  exact gF rfl hg2<|A0 (C3 rfl) rfl<|gF rfl hg2<|A0 (B5 rfl rfl rfl) rfl<|gF rfl hg2<|A0 (I8 (rows:=List.map cI [a0.Handle]) rfl rfl (E4 (fun _=>rfl) _)) rfl<|gF rfl hg2<|B2 (rs:=[.b x3]) rfl rfl (A2 rfl (A2 rfl (A2 rfl B4))) ((H7 hx3).frz)<|A0 (C7 rfl hg2 rfl) rfl<|ge 5 rfl rfl rfl
 refine es (ra2 rfl rfl)<|wi h rfl (fun hc5 h=>?_) fun hc5 h=>?_
 ·refine s0<|qm rfl<|qm rfl<|qm rfl<|es (ra3 rfl rfl rfl)<|C4 ?_
  obtain rfl:=os h
  exact retq trivial (B1 rfl (B1 rfl (B1 rfl B7))) (A5 rfl (A5 rfl (A5 rfl B6))) (A1 A4 (A1 A4 (A1 A4 A8)))
 ·refine C2<|sg 1 rfl<|A0 (C5 rfl rfl rfl) rfl<|A0 (N7 (cs:=[(.seq 4 (List.map C0 a0.Vans)),.i a0.Stops,.i a0.Handle,(.seq 4 (List.map A9 a0.Crates)),(.seq 2 (List.map C1 a0.Apart)),(.lit (.map none))]) rfl rfl) rfl<|A0 (G0 (cs:=[(.seq 4 (List.map C0 a0.Vans)),.i a0.Stops,.i a0.Handle,(.seq 4 (List.map A9 a0.Crates)),(.seq 2 (List.map C1 a0.Apart)),(.lit (.map none))]) rfl rfl rfl) rfl<|qm rfl<|es (ra2 rfl rfl)<|B3<|s0<|A0 (C3 rfl) rfl<|A0 (B5 rfl rfl rfl) rfl<|A0 (D3 (f:=C0) rfl) rfl<|qm rfl<|A0 (A9a rfl rfl) rfl<|A0 (N7 (cs:=[.i 2,.i 1,.i 3,(.i (List.length a0.Vans:Int)),(.fn (.func 57) [(.ptr (H.length + 1) 0)] [])]) rfl rfl) rfl<|A0 (C3 rfl) rfl<|A0 (B5 rfl rfl rfl) rfl<|A0 (D3 (f:=A9) rfl) rfl<|qm rfl<|A0 (A9a rfl rfl) rfl<|A0 (N7 (cs:=[.i 3,.i 0,.i 6,(.i (List.length a0.Crates:Int)),(.fn (.func 58) [(.ptr (H.length + 1) 0)] [])]) rfl rfl) rfl<|A0 (C3 rfl) rfl<|A0 (B5 rfl rfl rfl) rfl<|A0 (D3 (f:=C1) rfl) rfl<|qm rfl<|A0 (A9a rfl rfl) rfl<|A0 (N7 (cs:=[.i 4,.i 0,.i 4,(.i (List.length a0.Apart:Int)),(.fn (.func 59) [(.ptr (H.length + 1) 0)] [])]) rfl rfl) rfl<|A0 (E0j (rows:=[[.i 2,.i 1,.i 3,(.i (List.length a0.Vans:Int)),(.fn (.func 57) [(.ptr (H.length + 1) 0)] [])],[.i 3,.i 0,.i 6,(.i (List.length a0.Crates:Int)),(.fn (.func 58) [(.ptr (H.length + 1) 0)] [])],[.i 4,.i 0,.i 4,(.i (List.length a0.Apart:Int)),(.fn (.func 59) [(.ptr (H.length + 1) 0)] [])]]) rfl rfl) rfl<|A0 (E18 rfl rfl) rfl<|qm rfl<|es (ra3 rfl rfl rfl)<|B9<|B82 2 rfl [(40,(.xseq 5 [[.i 2,.i 1,.i 3,(.i (List.length a0.Vans:Int)),(.fn (.func 57) [(.ptr (H.length + 1) 0)] [])],[.i 3,.i 0,.i 6,(.i (List.length a0.Crates:Int)),(.fn (.func 58) [(.ptr (H.length + 1) 0)] [])],[.i 4,.i 0,.i 4,(.i (List.length a0.Apart:Int)),(.fn (.func 59) [(.ptr (H.length + 1) 0)] [])]])),(41,.i 3),(42,.i 0)] (fun S hS=>T5 (live:=[40,41,42]) rfl (by decide) (Sub.trans (su3 rfl rfl rfl) hS))<|s0<|A0 (J9 (v:=(.b true)) rfl rfl rfl) rfl<|es (ra4 rfl rfl rfl rfl)<|B3<|N0 rfl rfl<|C2<|B3<|B9<|sg 2 rfl<|A0 (D2y rfl rfl rfl) rfl<|A0 (B8f (ds:=[.i 2,.i 1,.i 3,(.i (List.length a0.Vans:Int)),(.fn (.func 57) [(.ptr (H.length + 1) 0)] [])]) rfl rfl rfl) rfl<|A0 E6 rfl<|G6 (E2 (ds:=[.i 2,.i 1,.i 3,(.i (List.length a0.Vans:Int)),(.fn (.func 57) [(.ptr (H.length + 1) 0)] [])]) rfl rfl rfl rfl (U1 (Nat.add_le_add_left (Nat.le_of_ble_eq_true rfl) _)) rfl) rfl<|es (ra4 rfl rfl rfl rfl)<|B3<|s0<|oB h fun x6 hx6 h=>A0 (C3 rfl) rfl<|A0 (B5 (x:=(.i 1)) rfl rfl rfl) rfl<|A0 (C3 rfl) rfl<|A0 (B5 (x:=(.i 3)) rfl rfl rfl) rfl<|A0 (C3 rfl) rfl<|A0 (B5 (x:=(.i (List.length a0.Vans:Int))) rfl rfl rfl) rfl<|A0 (I8 (rows:=List.map cI [(List.length a0.Vans:Int)]) rfl rfl (E4 (fun _=>rfl) _)) rfl<|B2 (rs:=[.b x6]) rfl rfl (A2 rfl (A2 rfl (A2 rfl B4))) ((H7 hx6).frz)<|es (ra5 rfl rfl rfl rfl rfl)<|wi h rfl (fun hc7 h=>?_) fun hc7 h=>?_
  ·refine s0<|A0 (C3 rfl) rfl<|A0 (B5 (x:=(.i 2)) rfl rfl rfl) rfl<|qm rfl<|qm rfl<|qm rfl<|es (ra3 rfl rfl rfl)<|C4<|UnQ.out rfl ?_
   obtain rfl:=os h
   exact retq trivial (B1 rfl (B1 rfl (B1 rfl B7))) (A5 rfl (A5 rfl (A5 rfl B6))) (A1 A4 (A1 A4 (A1 A4 A8)))
  ·refine C2<|s0<|A0 (C3 rfl) rfl<|A0 (B5 (x:=(.i (List.length a0.Vans:Int))) rfl rfl rfl) rfl<|qm rfl<|es (ra6 rfl rfl rfl rfl rfl rfl)<|B9<|oB h fun o13 ho13 h=>wl (fun s8=>[(7,(.ptr (H.length + 2) 0)),(40,(.xseq 5 [[.i 2,.i 1,.i 3,(.i (List.length a0.Vans:Int)),(.fn (.func 57) [(.ptr (H.length + 1) 0)] [])],[.i 3,.i 0,.i 6,(.i (List.length a0.Crates:Int)),(.fn (.func 58) [(.ptr (H.length + 1) 0)] [])],[.i 4,.i 0,.i 4,(.i (List.length a0.Apart:Int)),(.fn (.func 59) [(.ptr (H.length + 1) 0)] [])]])),(41,.i 3),(42,.i 0),(57,(.i (List.length a0.Vans:Int))),(58,.i s8)]) (fun (q9:Unit) s8=>[(.cells (A3 a0)),(.cells [(.seq 4 (List.map C0 a0.Vans)),.i a0.Stops,.i a0.Handle,(.seq 4 (List.map A9 a0.Crates)),(.seq 2 (List.map C1 a0.Apart)),(.lit (.map none))]),(.cells [.i 2,.i 1,.i 3,(.i (List.length a0.Vans:Int)),(.fn (.func 57) [(.ptr (H.length + 1) 0)] [])])]) 3 (fun r e s' H'=>(match r with | (.inl v)=>e = .ret∧RetQ H [.tmp 2,.tmp 3,.tmp 4] [.i v.1,.i v.2.1,.i v.2.2] e s' H' | (.inr v)=>PX 2 [(40,(.xseq 5 [[.i 2,.i 1,.i 3,(.i (List.length a0.Vans:Int)),(.fn (.func 57) [(.ptr (H.length + 1) 0)] [])],[.i 3,.i 0,.i 6,(.i (List.length a0.Crates:Int)),(.fn (.func 58) [(.ptr (H.length + 1) 0)] [])],[.i 4,.i 0,.i 4,(.i (List.length a0.Apart:Int)),(.fn (.func 59) [(.ptr (H.length + 1) 0)] [])]])),(41,.i 3),(42,.i 0)] (H++[(.cells (A3 a0)),(.cells [(.seq 4 (List.map C0 a0.Vans)),.i a0.Stops,.i a0.Handle,(.seq 4 (List.map A9 a0.Crates)),(.seq 2 (List.map C1 a0.Apart)),(.lit (.map none))]),(.cells [.i 2,.i 1,.i 3,(.i (List.length a0.Vans:Int)),(.fn (.func 57) [(.ptr (H.length + 1) 0)] [])])]) e s' H':Prop)) () ho13 rfl rfl (fun _ _=>rfl) (fun _=>rfl) rfl (fun s8=>(bdc (D5 rfl) (bdc (C6n (U3 (A1 A4 (A1 A4 (A1 A4 (A1 A4 (A1 (A33 (A1 (D5 rfl) A8) A8) A8))))) (U3 (A1 A4 (A1 A4 (A1 A4 (A1 A4 (A1 (A33 (A1 (D5 rfl) A8) A8) A8))))) (U3 (A1 A4 (A1 A4 (A1 A4 (A1 A4 (A1 (A33 (A1 (D5 rfl) A8) A8) A8))))) B5m)))) (bdc A4 (bdc A4 (bdc A4 (bdc A4 bdn))))))) (fun q9 s8 ys8 hs8=>?_) ?_
   ·unfold A7v at hs8
    refine s0<|A0 (F4 rfl rfl) rfl<|es (ra7 rfl rfl rfl rfl rfl rfl rfl)<|B3<|wi hs8 rfl (fun hc10 hs8=>?_) fun hc10 hs8=>?_
    ·refine C2<|B3<|B9<|s0<|qm rfl<|qm rfl<|es (ra7 rfl rfl rfl rfl rfl rfl rfl)<|s0<|oB hs8 fun x11 hx11 hs8=>A0 (C3 rfl) rfl<|A0 (B5 (x:=(.fn (.func 57) [(.ptr (H.length + 1) 0)] [])) rfl rfl rfl) rfl<|qm rfl<|B2 (rs:=[.i x11]) rfl rfl (A2 rfl B4) ((A6w (B9z (F3 rfl) hx11)).frz)<|qm rfl<|es (ra8 rfl rfl rfl rfl rfl rfl rfl rfl)<|s0<|qm rfl<|A0 (F8 rfl rfl) rfl<|es (ra9 rfl rfl rfl rfl rfl rfl rfl rfl rfl)<|wi hs8 rfl (fun hc12 hs8=>?_) fun hc12 hs8=>?_
     ·refine s0<|A0 (C3 rfl) rfl<|A0 (B5 (x:=(.i 2)) rfl rfl rfl) rfl<|qm rfl<|qm rfl<|qm rfl<|qm rfl<|qm rfl<|es (ra3 rfl rfl rfl)<|C4 ?_
      obtain rfl:=os hs8
      exact lx rfl (And.intro rfl (retq trivial (B1 rfl (B1 rfl (B1 rfl B7))) (A5 rfl (A5 rfl (A5 rfl B6))) (A1 A4 (A1 A4 (A1 A4 A8))))) (Sub.refl _)
     ·refine C2<|r0<|A0 (D7 rfl rfl) rfl<|qm rfl<|en (ra6 rfl rfl rfl rfl rfl rfl) ?_
      cases hs8
      exact lnT () rfl (su6 rfl rfl rfl rfl rfl rfl)
    ·refine E3 ?_
     obtain rfl:=os hs8
     exact lx rfl px (su3 rfl rfl rfl)
   ·rcases o13 with vo13_0 | vo13_1
    ·rintro e s' H' - ⟨rfl,hret⟩
     refine UnQ.out rfl ?_
     cases h
     exact hret
    ·rintro e s' H' - ⟨rfl,rfl,rfl⟩
     refine r0<|A0 (J9 (v:=(.i 1)) rfl rfl rfl) rfl<|qm rfl<|en (ra3 rfl rfl rfl)<|UnQ.nextT (live:=[40,41,42]) [(40,(.xseq 5 [[.i 2,.i 1,.i 3,(.i (List.length a0.Vans:Int)),(.fn (.func 57) [(.ptr (H.length + 1) 0)] [])],[.i 3,.i 0,.i 6,(.i (List.length a0.Crates:Int)),(.fn (.func 58) [(.ptr (H.length + 1) 0)] [])],[.i 4,.i 0,.i 4,(.i (List.length a0.Apart:Int)),(.fn (.func 59) [(.ptr (H.length + 1) 0)] [])]])),(41,.i 3),(42,.i 1)] (H++[(.cells (A3 a0)),(.cells [(.seq 4 (List.map C0 a0.Vans)),.i a0.Stops,.i a0.Handle,(.seq 4 (List.map A9 a0.Crates)),(.seq 2 (List.map C1 a0.Apart)),(.lit (.map none))])]) (su3 rfl rfl rfl) rfl (by decide) (K7 _ _ _) (bdc (C6n (U3 (A1 A4 (A1 A4 (A1 A4 (A1 A4 (A1 (A33 (A1 (D5 rfl) A8) A8) A8))))) (U3 (A1 A4 (A1 A4 (A1 A4 (A1 A4 (A1 (A33 (A1 (D5 rfl) A8) A8) A8))))) (U3 (A1 A4 (A1 A4 (A1 A4 (A1 A4 (A1 (A33 (A1 (D5 rfl) A8) A8) A8))))) B5m)))) (bdc A4 (bdc A4 bdn)))<|B82 2 rfl [(40,(.xseq 5 [[.i 2,.i 1,.i 3,(.i (List.length a0.Vans:Int)),(.fn (.func 57) [(.ptr (H.length + 1) 0)] [])],[.i 3,.i 0,.i 6,(.i (List.length a0.Crates:Int)),(.fn (.func 58) [(.ptr (H.length + 1) 0)] [])],[.i 4,.i 0,.i 4,(.i (List.length a0.Apart:Int)),(.fn (.func 59) [(.ptr (H.length + 1) 0)] [])]])),(41,.i 3),(42,.i 1)] (fun S hS=>T5 (live:=[40,41,42]) rfl (by decide) (Sub.trans (su3 rfl rfl rfl) hS))<|s0<|A0 (J9 (v:=(.b true)) rfl rfl rfl) rfl<|es (ra4 rfl rfl rfl rfl)<|B3<|N0 rfl rfl<|C2<|B3<|B9<|sg 2 rfl<|A0 (D2y rfl rfl rfl) rfl<|A0 (B8f (ds:=[.i 3,.i 0,.i 6,(.i (List.length a0.Crates:Int)),(.fn (.func 58) [(.ptr (H.length + 1) 0)] [])]) rfl rfl rfl) rfl<|A0 E6 rfl<|G6 (E2 (ds:=[.i 3,.i 0,.i 6,(.i (List.length a0.Crates:Int)),(.fn (.func 58) [(.ptr (H.length + 1) 0)] [])]) rfl rfl rfl rfl (U1 (Nat.add_le_add_left (Nat.le_of_ble_eq_true rfl) _)) rfl) rfl<|es (ra4 rfl rfl rfl rfl)<|B3<|s0<|oB h fun x14 hx14 h=>A0 (C3 rfl) rfl<|A0 (B5 (x:=(.i 0)) rfl rfl rfl) rfl<|A0 (C3 rfl) rfl<|A0 (B5 (x:=(.i 6)) rfl rfl rfl) rfl<|A0 (C3 rfl) rfl<|A0 (B5 (x:=(.i (List.length a0.Crates:Int))) rfl rfl rfl) rfl<|A0 (I8 (rows:=List.map cI [(List.length a0.Crates:Int)]) rfl rfl (E4 (fun _=>rfl) _)) rfl<|B2 (rs:=[.b x14]) rfl rfl (A2 rfl (A2 rfl (A2 rfl B4))) ((H7 hx14).frz)<|es (ra5 rfl rfl rfl rfl rfl)<|wi h rfl (fun hc15 h=>?_) fun hc15 h=>?_
     ·refine s0<|A0 (C3 rfl) rfl<|A0 (B5 (x:=(.i 3)) rfl rfl rfl) rfl<|qm rfl<|qm rfl<|qm rfl<|es (ra3 rfl rfl rfl)<|C4<|UnQ.out rfl ?_
      obtain rfl:=os h
      exact retq trivial (B1 rfl (B1 rfl (B1 rfl B7))) (A5 rfl (A5 rfl (A5 rfl B6))) (A1 A4 (A1 A4 (A1 A4 A8)))
     ·refine C2<|s0<|A0 (C3 rfl) rfl<|A0 (B5 (x:=(.i (List.length a0.Crates:Int))) rfl rfl rfl) rfl<|qm rfl<|es (ra6 rfl rfl rfl rfl rfl rfl)<|B9<|oB h fun o21 ho21 h=>wl (fun s16=>[(7,(.ptr (H.length + 2) 0)),(40,(.xseq 5 [[.i 2,.i 1,.i 3,(.i (List.length a0.Vans:Int)),(.fn (.func 57) [(.ptr (H.length + 1) 0)] [])],[.i 3,.i 0,.i 6,(.i (List.length a0.Crates:Int)),(.fn (.func 58) [(.ptr (H.length + 1) 0)] [])],[.i 4,.i 0,.i 4,(.i (List.length a0.Apart:Int)),(.fn (.func 59) [(.ptr (H.length + 1) 0)] [])]])),(41,.i 3),(42,.i 1),(57,(.i (List.length a0.Crates:Int))),(58,.i s16)]) (fun (q17:Unit) s16=>[(.cells (A3 a0)),(.cells [(.seq 4 (List.map C0 a0.Vans)),.i a0.Stops,.i a0.Handle,(.seq 4 (List.map A9 a0.Crates)),(.seq 2 (List.map C1 a0.Apart)),(.lit (.map none))]),(.cells [.i 3,.i 0,.i 6,(.i (List.length a0.Crates:Int)),(.fn (.func 58) [(.ptr (H.length + 1) 0)] [])])]) 3 (fun r e s' H'=>(match r with | (.inl v)=>e = .ret∧RetQ H [.tmp 2,.tmp 3,.tmp 4] [.i v.1,.i v.2.1,.i v.2.2] e s' H' | (.inr v)=>PX 2 [(40,(.xseq 5 [[.i 2,.i 1,.i 3,(.i (List.length a0.Vans:Int)),(.fn (.func 57) [(.ptr (H.length + 1) 0)] [])],[.i 3,.i 0,.i 6,(.i (List.length a0.Crates:Int)),(.fn (.func 58) [(.ptr (H.length + 1) 0)] [])],[.i 4,.i 0,.i 4,(.i (List.length a0.Apart:Int)),(.fn (.func 59) [(.ptr (H.length + 1) 0)] [])]])),(41,.i 3),(42,.i 1)] (H++[(.cells (A3 a0)),(.cells [(.seq 4 (List.map C0 a0.Vans)),.i a0.Stops,.i a0.Handle,(.seq 4 (List.map A9 a0.Crates)),(.seq 2 (List.map C1 a0.Apart)),(.lit (.map none))]),(.cells [.i 3,.i 0,.i 6,(.i (List.length a0.Crates:Int)),(.fn (.func 58) [(.ptr (H.length + 1) 0)] [])])]) e s' H':Prop)) () ho21 rfl rfl (fun _ _=>rfl) (fun _=>rfl) rfl (fun s16=>(bdc (D5 rfl) (bdc (C6n (U3 (A1 A4 (A1 A4 (A1 A4 (A1 A4 (A1 (A33 (A1 (D5 rfl) A8) A8) A8))))) (U3 (A1 A4 (A1 A4 (A1 A4 (A1 A4 (A1 (A33 (A1 (D5 rfl) A8) A8) A8))))) (U3 (A1 A4 (A1 A4 (A1 A4 (A1 A4 (A1 (A33 (A1 (D5 rfl) A8) A8) A8))))) B5m)))) (bdc A4 (bdc A4 (bdc A4 (bdc A4 bdn))))))) (fun q17 s16 ys16 hs16=>?_) ?_
      ·unfold A7w at hs16
       refine s0<|A0 (F4 rfl rfl) rfl<|es (ra7 rfl rfl rfl rfl rfl rfl rfl)<|B3<|wi hs16 rfl (fun hc18 hs16=>?_) fun hc18 hs16=>?_
       ·refine C2<|B3<|B9<|s0<|qm rfl<|qm rfl<|es (ra7 rfl rfl rfl rfl rfl rfl rfl)<|s0<|oB hs16 fun x19 hx19 hs16=>A0 (C3 rfl) rfl<|A0 (B5 (x:=(.fn (.func 58) [(.ptr (H.length + 1) 0)] [])) rfl rfl rfl) rfl<|qm rfl<|B2 (rs:=[.i x19]) rfl rfl (A2 rfl B4) ((A6w (B62 (F3 rfl) hx19)).frz)<|qm rfl<|es (ra8 rfl rfl rfl rfl rfl rfl rfl rfl)<|s0<|qm rfl<|A0 (F8 rfl rfl) rfl<|es (ra9 rfl rfl rfl rfl rfl rfl rfl rfl rfl)<|wi hs16 rfl (fun hc20 hs16=>?_) fun hc20 hs16=>?_
        ·refine s0<|A0 (C3 rfl) rfl<|A0 (B5 (x:=(.i 3)) rfl rfl rfl) rfl<|qm rfl<|qm rfl<|qm rfl<|qm rfl<|qm rfl<|es (ra3 rfl rfl rfl)<|C4 ?_
         obtain rfl:=os hs16
         exact lx rfl (And.intro rfl (retq trivial (B1 rfl (B1 rfl (B1 rfl B7))) (A5 rfl (A5 rfl (A5 rfl B6))) (A1 A4 (A1 A4 (A1 A4 A8))))) (Sub.refl _)
        ·refine C2<|r0<|A0 (D7 rfl rfl) rfl<|qm rfl<|en (ra6 rfl rfl rfl rfl rfl rfl) ?_
         cases hs16
         exact lnT () rfl (su6 rfl rfl rfl rfl rfl rfl)
       ·refine E3 ?_
        obtain rfl:=os hs16
        exact lx rfl px (su3 rfl rfl rfl)
      ·rcases o21 with vo21_0 | vo21_1
       ·rintro e s' H' - ⟨rfl,hret⟩
        refine UnQ.out rfl ?_
        cases h
        exact hret
       ·rintro e s' H' - ⟨rfl,rfl,rfl⟩
        refine r0<|A0 (J9 (v:=(.i 2)) rfl rfl rfl) rfl<|qm rfl<|en (ra3 rfl rfl rfl)<|UnQ.nextT (live:=[40,41,42]) [(40,(.xseq 5 [[.i 2,.i 1,.i 3,(.i (List.length a0.Vans:Int)),(.fn (.func 57) [(.ptr (H.length + 1) 0)] [])],[.i 3,.i 0,.i 6,(.i (List.length a0.Crates:Int)),(.fn (.func 58) [(.ptr (H.length + 1) 0)] [])],[.i 4,.i 0,.i 4,(.i (List.length a0.Apart:Int)),(.fn (.func 59) [(.ptr (H.length + 1) 0)] [])]])),(41,.i 3),(42,.i 2)] (H++[(.cells (A3 a0)),(.cells [(.seq 4 (List.map C0 a0.Vans)),.i a0.Stops,.i a0.Handle,(.seq 4 (List.map A9 a0.Crates)),(.seq 2 (List.map C1 a0.Apart)),(.lit (.map none))])]) (su3 rfl rfl rfl) rfl (by decide) (K7 _ _ _) (bdc (C6n (U3 (A1 A4 (A1 A4 (A1 A4 (A1 A4 (A1 (A33 (A1 (D5 rfl) A8) A8) A8))))) (U3 (A1 A4 (A1 A4 (A1 A4 (A1 A4 (A1 (A33 (A1 (D5 rfl) A8) A8) A8))))) (U3 (A1 A4 (A1 A4 (A1 A4 (A1 A4 (A1 (A33 (A1 (D5 rfl) A8) A8) A8))))) B5m)))) (bdc A4 (bdc A4 bdn)))<|B82 2 rfl [(40,(.xseq 5 [[.i 2,.i 1,.i 3,(.i (List.length a0.Vans:Int)),(.fn (.func 57) [(.ptr (H.length + 1) 0)] [])],[.i 3,.i 0,.i 6,(.i (List.length a0.Crates:Int)),(.fn (.func 58) [(.ptr (H.length + 1) 0)] [])],[.i 4,.i 0,.i 4,(.i (List.length a0.Apart:Int)),(.fn (.func 59) [(.ptr (H.length + 1) 0)] [])]])),(41,.i 3),(42,.i 2)] (fun S hS=>T5 (live:=[40,41,42]) rfl (by decide) (Sub.trans (su3 rfl rfl rfl) hS))<|s0<|A0 (J9 (v:=(.b true)) rfl rfl rfl) rfl<|es (ra4 rfl rfl rfl rfl)<|B3<|N0 rfl rfl<|C2<|B3<|B9<|sg 2 rfl<|A0 (D2y rfl rfl rfl) rfl<|A0 (B8f (ds:=[.i 4,.i 0,.i 4,(.i (List.length a0.Apart:Int)),(.fn (.func 59) [(.ptr (H.length + 1) 0)] [])]) rfl rfl rfl) rfl<|A0 E6 rfl<|G6 (E2 (ds:=[.i 4,.i 0,.i 4,(.i (List.length a0.Apart:Int)),(.fn (.func 59) [(.ptr (H.length + 1) 0)] [])]) rfl rfl rfl rfl (U1 (Nat.add_le_add_left (Nat.le_of_ble_eq_true rfl) _)) rfl) rfl<|es (ra4 rfl rfl rfl rfl)<|B3<|s0<|oB h fun x22 hx22 h=>A0 (C3 rfl) rfl<|A0 (B5 (x:=(.i 0)) rfl rfl rfl) rfl<|A0 (C3 rfl) rfl<|A0 (B5 (x:=(.i 4)) rfl rfl rfl) rfl<|A0 (C3 rfl) rfl<|A0 (B5 (x:=(.i (List.length a0.Apart:Int))) rfl rfl rfl) rfl<|A0 (I8 (rows:=List.map cI [(List.length a0.Apart:Int)]) rfl rfl (E4 (fun _=>rfl) _)) rfl<|B2 (rs:=[.b x22]) rfl rfl (A2 rfl (A2 rfl (A2 rfl B4))) ((H7 hx22).frz)<|es (ra5 rfl rfl rfl rfl rfl)<|wi h rfl (fun hc23 h=>?_) fun hc23 h=>?_
        ·refine s0<|A0 (C3 rfl) rfl<|A0 (B5 (x:=(.i 4)) rfl rfl rfl) rfl<|qm rfl<|qm rfl<|qm rfl<|es (ra3 rfl rfl rfl)<|C4<|UnQ.out rfl ?_
         obtain rfl:=os h
         exact retq trivial (B1 rfl (B1 rfl (B1 rfl B7))) (A5 rfl (A5 rfl (A5 rfl B6))) (A1 A4 (A1 A4 (A1 A4 A8)))
        ·refine C2<|s0<|A0 (C3 rfl) rfl<|A0 (B5 (x:=(.i (List.length a0.Apart:Int))) rfl rfl rfl) rfl<|qm rfl<|es (ra6 rfl rfl rfl rfl rfl rfl)<|B9<|oB h fun o29 ho29 h=>wl (fun s24=>[(7,(.ptr (H.length + 2) 0)),(40,(.xseq 5 [[.i 2,.i 1,.i 3,(.i (List.length a0.Vans:Int)),(.fn (.func 57) [(.ptr (H.length + 1) 0)] [])],[.i 3,.i 0,.i 6,(.i (List.length a0.Crates:Int)),(.fn (.func 58) [(.ptr (H.length + 1) 0)] [])],[.i 4,.i 0,.i 4,(.i (List.length a0.Apart:Int)),(.fn (.func 59) [(.ptr (H.length + 1) 0)] [])]])),(41,.i 3),(42,.i 2),(57,(.i (List.length a0.Apart:Int))),(58,.i s24)]) (fun (q25:Unit) s24=>[(.cells (A3 a0)),(.cells [(.seq 4 (List.map C0 a0.Vans)),.i a0.Stops,.i a0.Handle,(.seq 4 (List.map A9 a0.Crates)),(.seq 2 (List.map C1 a0.Apart)),(.lit (.map none))]),(.cells [.i 4,.i 0,.i 4,(.i (List.length a0.Apart:Int)),(.fn (.func 59) [(.ptr (H.length + 1) 0)] [])])]) 3 (fun r e s' H'=>(match r with | (.inl v)=>e = .ret∧RetQ H [.tmp 2,.tmp 3,.tmp 4] [.i v.1,.i v.2.1,.i v.2.2] e s' H' | (.inr v)=>PX 2 [(40,(.xseq 5 [[.i 2,.i 1,.i 3,(.i (List.length a0.Vans:Int)),(.fn (.func 57) [(.ptr (H.length + 1) 0)] [])],[.i 3,.i 0,.i 6,(.i (List.length a0.Crates:Int)),(.fn (.func 58) [(.ptr (H.length + 1) 0)] [])],[.i 4,.i 0,.i 4,(.i (List.length a0.Apart:Int)),(.fn (.func 59) [(.ptr (H.length + 1) 0)] [])]])),(41,.i 3),(42,.i 2)] (H++[(.cells (A3 a0)),(.cells [(.seq 4 (List.map C0 a0.Vans)),.i a0.Stops,.i a0.Handle,(.seq 4 (List.map A9 a0.Crates)),(.seq 2 (List.map C1 a0.Apart)),(.lit (.map none))]),(.cells [.i 4,.i 0,.i 4,(.i (List.length a0.Apart:Int)),(.fn (.func 59) [(.ptr (H.length + 1) 0)] [])])]) e s' H':Prop)) () ho29 rfl rfl (fun _ _=>rfl) (fun _=>rfl) rfl (fun s24=>(bdc (D5 rfl) (bdc (C6n (U3 (A1 A4 (A1 A4 (A1 A4 (A1 A4 (A1 (A33 (A1 (D5 rfl) A8) A8) A8))))) (U3 (A1 A4 (A1 A4 (A1 A4 (A1 A4 (A1 (A33 (A1 (D5 rfl) A8) A8) A8))))) (U3 (A1 A4 (A1 A4 (A1 A4 (A1 A4 (A1 (A33 (A1 (D5 rfl) A8) A8) A8))))) B5m)))) (bdc A4 (bdc A4 (bdc A4 (bdc A4 bdn))))))) (fun q25 s24 ys24 hs24=>?_) ?_
         ·unfold A7x at hs24
          refine s0<|A0 (F4 rfl rfl) rfl<|es (ra7 rfl rfl rfl rfl rfl rfl rfl)<|B3<|wi hs24 rfl (fun hc26 hs24=>?_) fun hc26 hs24=>?_
          ·refine C2<|B3<|B9<|s0<|qm rfl<|qm rfl<|es (ra7 rfl rfl rfl rfl rfl rfl rfl)<|s0<|oB hs24 fun x27 hx27 hs24=>A0 (C3 rfl) rfl<|A0 (B5 (x:=(.fn (.func 59) [(.ptr (H.length + 1) 0)] [])) rfl rfl rfl) rfl<|qm rfl<|B2 (rs:=[.i x27]) rfl rfl (A2 rfl B4) ((A6w (B8m (F3 rfl) hx27)).frz)<|qm rfl<|es (ra8 rfl rfl rfl rfl rfl rfl rfl rfl)<|s0<|qm rfl<|A0 (F8 rfl rfl) rfl<|es (ra9 rfl rfl rfl rfl rfl rfl rfl rfl rfl)<|wi hs24 rfl (fun hc28 hs24=>?_) fun hc28 hs24=>?_
           ·refine s0<|A0 (C3 rfl) rfl<|A0 (B5 (x:=(.i 4)) rfl rfl rfl) rfl<|qm rfl<|qm rfl<|qm rfl<|qm rfl<|qm rfl<|es (ra3 rfl rfl rfl)<|C4 ?_
            obtain rfl:=os hs24
            exact lx rfl (And.intro rfl (retq trivial (B1 rfl (B1 rfl (B1 rfl B7))) (A5 rfl (A5 rfl (A5 rfl B6))) (A1 A4 (A1 A4 (A1 A4 A8))))) (Sub.refl _)
           ·refine C2<|r0<|A0 (D7 rfl rfl) rfl<|qm rfl<|en (ra6 rfl rfl rfl rfl rfl rfl) ?_
            cases hs24
            exact lnT () rfl (su6 rfl rfl rfl rfl rfl rfl)
          ·refine E3 ?_
           obtain rfl:=os hs24
           exact lx rfl px (su3 rfl rfl rfl)
         ·rcases o29 with vo29_0 | vo29_1
          ·rintro e s' H' - ⟨rfl,hret⟩
           refine UnQ.out rfl ?_
           cases h
           exact hret
          ·rintro e s' H' - ⟨rfl,rfl,rfl⟩
           refine r0<|A0 (J9 (v:=(.i 3)) rfl rfl rfl) rfl<|qm rfl<|en (ra3 rfl rfl rfl)<|UnQ.nextT (live:=[40,41,42]) [(40,(.xseq 5 [[.i 2,.i 1,.i 3,(.i (List.length a0.Vans:Int)),(.fn (.func 57) [(.ptr (H.length + 1) 0)] [])],[.i 3,.i 0,.i 6,(.i (List.length a0.Crates:Int)),(.fn (.func 58) [(.ptr (H.length + 1) 0)] [])],[.i 4,.i 0,.i 4,(.i (List.length a0.Apart:Int)),(.fn (.func 59) [(.ptr (H.length + 1) 0)] [])]])),(41,.i 3),(42,.i 3)] (H++[(.cells (A3 a0)),(.cells [(.seq 4 (List.map C0 a0.Vans)),.i a0.Stops,.i a0.Handle,(.seq 4 (List.map A9 a0.Crates)),(.seq 2 (List.map C1 a0.Apart)),(.lit (.map none))])]) (su3 rfl rfl rfl) rfl (by decide) (K7 _ _ _) (bdc (C6n (U3 (A1 A4 (A1 A4 (A1 A4 (A1 A4 (A1 (A33 (A1 (D5 rfl) A8) A8) A8))))) (U3 (A1 A4 (A1 A4 (A1 A4 (A1 A4 (A1 (A33 (A1 (D5 rfl) A8) A8) A8))))) (U3 (A1 A4 (A1 A4 (A1 A4 (A1 A4 (A1 (A33 (A1 (D5 rfl) A8) A8) A8))))) B5m)))) (bdc A4 (bdc A4 bdn)))<|B82 2 rfl [(40,(.xseq 5 [[.i 2,.i 1,.i 3,(.i (List.length a0.Vans:Int)),(.fn (.func 57) [(.ptr (H.length + 1) 0)] [])],[.i 3,.i 0,.i 6,(.i (List.length a0.Crates:Int)),(.fn (.func 58) [(.ptr (H.length + 1) 0)] [])],[.i 4,.i 0,.i 4,(.i (List.length a0.Apart:Int)),(.fn (.func 59) [(.ptr (H.length + 1) 0)] [])]])),(41,.i 3),(42,.i 3)] (fun S hS=>T5 (live:=[40,41,42]) rfl (by decide) (Sub.trans (su3 rfl rfl rfl) hS))<|s0<|A0 (J9 (v:=(.b false)) rfl rfl rfl) rfl<|es (ra4 rfl rfl rfl rfl)<|B3<|A0c rfl rfl<|E3<|UnQ.out rfl<|s0<|qm rfl<|qm rfl<|qm rfl<|es (ra3 rfl rfl rfl)<|C4 ?_
           obtain rfl:=os h
           exact retq trivial (B1 rfl (B1 rfl (B1 rfl B7))) (A5 rfl (A5 rfl (A5 rfl B6))) (A1 A4 (A1 A4 (A1 A4 A8)))
def O2 (a0:(List VaPair)) (g1:(VaPair→Option Bool)) (s1:Int):Option (Int ⊕ (Int ⊕ Unit)) :=
 if (decide (s1 < (List.length a0:Int))) = true then
  (idx a0 s1).bind fun x4 =>
  (g1 x4).bind fun x5 =>
  if x5 = true then
  some (.inr (.inl s1))
  else
  some (.inl (w64 (s1 + 1)))
 else
  some (.inr (.inr ()))
def P5 (a0:(List VaPair)) (g1:(VaPair→Option Bool)):Option Int :=
 (loop (O2 a0 g1) 0).bind fun (o7:(Int ⊕ Unit)) =>
 match o7 with
 | (.inl vo7_0) =>
  some vo7_0
 | (.inr vo7_1) =>
  some (-1)
theorem A3t {c:Sc} {H:A6} {a0:(List VaPair)} {g1:VaPair→Option Bool} {g1_i:Nat} {g1_f g1_c:List AV} (g1_h:Impl tab H g1_i g1_f g1_c g1 (fun y=>[(.agg (C1 y))]) (fun y=>[.b y])) {r:Int} (h:P5 a0 g1 = some r) :
  F2 tab c H (.fn (.func 115) [] []) [(.seq 2 (List.map C1 a0)),.fn (.func g1_i) g1_f g1_c] [.i r]:= by
 unfold P5 at h
 refine cE rfl rfl<|s0<|qm rfl<|es (ra2 rfl rfl)<|B3<|s0<|qm rfl<|A0 (D3 (f:=C1) rfl) rfl<|qm rfl<|es (ra4 rfl rfl rfl rfl)<|B9<|oB h fun o7 ho7 h=>wl (fun s1=>[(0,(.seq 2 (List.map C1 a0))),(1,(.fn (.func g1_i) g1_f g1_c)),(7,(.i (List.length a0:Int))),(8,.i s1)]) (fun (q2:Unit) s1=>[]) 0 (fun r e s' H'=>(match r with | (.inl v)=>e = .ret∧RetQ H [.tmp 4] [.i v] e s' H' | (.inr v)=>PX 0 [] (H++[]) e s' H':Prop)) () ho7 rfl rfl (fun _ _=>rfl) (fun _=>rfl) rfl (fun s1=>(bdc D8 (bdc (D3s g1_h.1) (bdc A4 (bdc A4 bdn))))) (fun q2 s1 ys1 hs1=>?_) ?_
 ·unfold O2 at hs1
  refine s0<|A0 (F4 rfl rfl) rfl<|es (ra5 rfl rfl rfl rfl rfl)<|B3<|wi hs1 rfl (fun hc3 hs1=>?_) fun hc3 hs1=>?_
  ·refine C2<|B3<|B9<|s0<|qm rfl<|qm rfl<|es (ra5 rfl rfl rfl rfl rfl)<|s0<|oB hs1 fun x4 hx4 hs1=>oB hs1 fun x5 hx5 hs1=>qm rfl<|qm rfl<|qm rfl<|A0 (D4 (f:=C1) rfl rfl hx4) rfl<|A0 (K0 rfl rfl) rfl<|B2 (rs:=[.b x5]) rfl rfl (A2 (D2 rfl) B4) (Impl.call g1_h hx5 _)<|es (ra6 rfl rfl rfl rfl rfl rfl)<|wi hs1 rfl (fun hc6 hs1=>?_) fun hc6 hs1=>?_
   ·refine s0<|qm rfl<|qm rfl<|es (ra1 rfl)<|C4 ?_
    obtain rfl:=os hs1
    exact lx rfl (And.intro rfl (retq trivial (B1 rfl B7) (A5 rfl B6) (A1 A4 A8))) (Sub.refl _)
   ·refine C2<|r0<|A0 (D7 rfl rfl) rfl<|qm rfl<|en (ra4 rfl rfl rfl rfl) ?_
    cases hs1
    exact lnT () rfl (su4 rfl rfl rfl rfl)
  ·refine E3 ?_
   obtain rfl:=os hs1
   exact lx rfl px (.nil _)
 ·rcases o7 with vo7_0 | vo7_1
  ·rintro e s' H' - ⟨rfl,hret⟩
   cases h
   exact hret
  ·rintro e s' H' - ⟨rfl,rfl,rfl⟩
   refine s0<|qm rfl<|es (ra1 rfl)<|C4 ?_
   obtain rfl:=os h
   exact retq trivial (B1 rfl B7) (A5 rfl B6) (A1 A4 A8)
def K3 (a0:(List VaPair)) (g1:(VaPair→Option Bool)):Option Bool :=
 (P5 a0 g1).bind fun x1 =>
 some (decide (x1 ≥ 0))
theorem A2e {c:Sc} {H:A6} {a0:(List VaPair)} {g1:VaPair→Option Bool} {g1_i:Nat} {g1_f g1_c:List AV} (g1_h:Impl tab H g1_i g1_f g1_c g1 (fun y=>[(.agg (C1 y))]) (fun y=>[.b y])) {r:Bool} (h:K3 a0 g1 = some r) :
  F2 tab c H (.fn (.func 100) [] []) [(.seq 2 (List.map C1 a0)),.fn (.func g1_i) g1_f g1_c] [.b r]:= by
 unfold K3 at h
 refine cE rfl rfl<|s0<|qm rfl<|es (ra2 rfl rfl)<|s0<|oB h fun x1 hx1 h=>qm rfl<|qm rfl<|B2 (rs:=[.i x1]) rfl rfl (A2 rfl (A2 rfl B4)) ((A3t (Impl.app g1_h _) hx1).frz)<|A0 (B1e rfl rfl) rfl<|qm rfl<|es (ra1 rfl)<|C4 ?_
 obtain rfl:=os h
 exact retq trivial (B1 rfl B7) (A5 rfl B6) (A1 A4 A8)
def Y8 (a0:VaPair) (a1:Int) (a2:Int):Option Bool :=
 some ((a0.A == (VaPair.mk a1 a2).A) && ((a0.B == (VaPair.mk a1 a2).B) && true))
theorem B3q {c:Sc} {H:A6} {a0:VaPair} {a1:Int} {b1:Nat} (hb1:hcells H b1 = some (cI a1)) {a2:Int} {b2:Nat} (hb2:hcells H b2 = some (cI a2)) {r:Bool} (h:Y8 a0 a1 a2 = some r) :
  F2 tab c H (.fn (.func 101) [] []) [(.agg (C1 a0)),.ptr b1 0,.ptr b2 0] [.b r]:= by
 unfold Y8 at h
 refine cE rfl rfl<|sg 0 rfl<|A0 (G0 (cs:=C1 a0) rfl rfl rfl) rfl<|qm rfl<|es (ra3 rfl rfl rfl)<|s0<|A0 (C5 rfl rfl rfl) rfl<|A0 (I0 rfl hb1 rfl) rfl<|A0 (I0 rfl hb2 rfl) rfl<|A0 (N7 (cs:=C1 (VaPair.mk a1 a2)) rfl rfl) rfl<|A0 (D2x (a:=C1 a0) (b:=C1 (VaPair.mk a1 a2)) rfl rfl rfl rfl (B3d (B3d C8f))) rfl<|qm rfl<|es (ra1 rfl)<|C4 ?_
 obtain rfl:=os h
 exact retq trivial (B1 rfl B7) (A5 rfl B6) (A1 A4 A8)
def X3 (a0:van_train) (a1:(IArr 6)) (a2:Int) (x1:Int) (s3:(Int × Int)):Option ((Int × Int) ⊕ (Bool ⊕ Int)) :=
 if (decide (s3.2 < (w64 (a2 + 1)))) = true then
  (A0y 6 (IArr.l a1) s3.2).bind fun x6 =>
  if (x6 != x1) = true then
  some (.inl (s3.1,(w64 (s3.2 + 1))))
  else
  (idx a0.VaTrain.Crates s3.2).bind fun x8 =>
  (K3 a0.VaTrain.Apart (fun (y:VaPair)=>Y8 y s3.2 a2)).bind fun x9 =>
  if x9 = true then
   some (.inr (.inl false))
  else
   some (.inl ((w64 (s3.1 + x8.Size)),(w64 (s3.2 + 1))))
 else
  some (.inr (.inr s3.1))
def I5 (a0:van_train) (a1:(IArr 6)) (a2:Int):Option Bool :=
 (A0y 6 (IArr.l a1) a2).bind fun x1 =>
 if (x1 == 0) = true then
  some true
 else
  (loop (X3 a0 a1 a2 x1) (0,0)).bind fun (o11:(Bool ⊕ Int)) =>
  match o11 with
  | (.inl vo11_0) =>
  some vo11_0
  | (.inr vo11_1) =>
  (idx a0.VaTrain.Vans (w64 (x1 - 1))).bind fun x12 =>
  some (decide (vo11_1≤x12.Room))
theorem P2 {c:Sc} {H:A6} {a0:van_train} {m0_5:AV} {b0:Nat} (hb0:hcells H b0 = some [(.seq 4 (List.map C0 a0.VaTrain.Vans)),.i a0.VaTrain.Stops,.i a0.VaTrain.Handle,(.seq 4 (List.map A9 a0.VaTrain.Crates)),(.seq 2 (List.map C1 a0.VaTrain.Apart)),m0_5]) {a1:(IArr 6)} {a2:Int} {r:Bool} (h:I5 a0 a1 a2 = some r) :
  F2 tab c H (.fn (.func 80) [] []) [.ptr b0 0,(.agg ((cA .i64) a1)),.i a2] [.b r]:= by
 unfold I5 at h
 refine cE rfl rfl<|sg 0 rfl<|A0 (B9t rfl) rfl<|A0 (G0 (cs:=cI a2) rfl rfl rfl) rfl<|qm rfl<|es (ra3 rfl rfl rfl)<|s0<|oB h fun x1 hx1 h=>A0 (B5 rfl rfl rfl) rfl<|A0 (Z4 rfl rfl hx1) rfl<|A0 (A3r rfl rfl hx1) rfl<|qm rfl<|es (ra4 rfl rfl rfl rfl)<|B3<|s0<|qm rfl<|A0 (G7 rfl rfl) rfl<|es (ra5 rfl rfl rfl rfl rfl)<|wi h rfl (fun hc2 h=>?_) fun hc2 h=>?_
 ·refine s0<|qm rfl<|es (ra1 rfl)<|C4 ?_
  obtain rfl:=os h
  exact retq trivial (B1 rfl B7) (A5 rfl B6) (A1 A4 A8)
 ·refine C2<|s0<|qm rfl<|es (ra5 rfl rfl rfl rfl rfl)<|B3<|s0<|A0 (B5 rfl rfl rfl) rfl<|A0 (D7 rfl rfl) rfl<|qm rfl<|es (ra7 rfl rfl rfl rfl rfl rfl rfl)<|B9<|oB h fun o11 ho11 h=>wl (fun s3=>[(0,.ptr b0 0),(4,(.ptr (H.length + 0) 0)),(5,(.ptr (H.length + 1) 0)),(7,.i x1),(8,.i s3.1),(16,(.i (w64 (a2 + 1)))),(17,.i s3.2)]) (fun (q4:Unit) s3=>[(.cells ((cA .i64) a1)),(.cells (cI a2))]) 2 (fun r e s' H'=>(match r with | (.inl v)=>e = .ret∧RetQ H [.tmp 6] [.b v] e s' H' | (.inr v)=>PX 0 [(0,.ptr b0 0),(7,.i x1),(8,.i v)] (H++[(.cells ((cA .i64) a1)),(.cells (cI a2))]) e s' H':Prop)) () ho11 rfl rfl (fun _ _=>rfl) (fun _=>rfl) rfl (fun s3=>(bdc (C1m hb0) (bdc (D5 rfl) (bdc (D5 rfl) (bdc A4 (bdc A4 (bdc A4 (bdc A4 bdn)))))))) (fun q4 s3 ys3 hs3=>?_) ?_
  ·unfold X3 at hs3
   refine s0<|A0 (F4 rfl rfl) rfl<|es (ra8 rfl rfl rfl rfl rfl rfl rfl rfl)<|B3<|wi hs3 rfl (fun hc5 hs3=>?_) fun hc5 hs3=>?_
   ·refine C2<|B3<|B9<|sg 2 rfl<|qm rfl<|A0 E6 rfl<|G6 (E2 (ds:=(cI s3.2)) rfl rfl rfl rfl (E1 rfl) rfl) rfl<|es (ra8 rfl rfl rfl rfl rfl rfl rfl rfl)<|B3<|s0<|oB hs3 fun x6 hx6 hs3=>A0 (B5 rfl rfl rfl) rfl<|A0 (Z4 rfl rfl hx6) rfl<|A0 (A3r rfl rfl hx6) rfl<|qm rfl<|A0 (F8 rfl rfl) rfl<|es (ra9 rfl rfl rfl rfl rfl rfl rfl rfl rfl)<|wi hs3 rfl (fun hc7 hs3=>?_) fun hc7 hs3=>?_
    ·refine E3<|r0<|A0 (D7 rfl rfl) rfl<|qm rfl<|en (ra7 rfl rfl rfl rfl rfl rfl rfl) ?_
     cases hs3
     exact lnT () rfl (su7 rfl rfl rfl rfl rfl rfl rfl)
    ·refine C2<|s0<|oB hs3 fun x8 hx8 hs3=>qm rfl<|qm rfl<|A0 (M9 rfl rfl) rfl<|A0 (C3 rfl) rfl<|A0 (C3 rfl) rfl<|A0 (I0 (x:=(.seq 4 (List.map A9 a0.VaTrain.Crates))) rfl hb0 rfl) rfl<|A0 (B5 rfl rfl rfl) rfl<|A0 (D4 (f:=A9) rfl rfl hx8) rfl<|A0 (R6 (ds:=(List.drop 1 (A9 x8))) rfl rfl) rfl<|A0 (D6 rfl rfl) rfl<|A0 (D7 rfl rfl) rfl<|qm rfl<|es (ra8 rfl rfl rfl rfl rfl rfl rfl rfl)<|s0<|oB hs3 fun x9 hx9 hs3=>qm rfl<|A0 (M9 rfl rfl) rfl<|A0 (C3 rfl) rfl<|A0 (C3 rfl) rfl<|A0 (I0 (x:=(.seq 2 (List.map C1 a0.VaTrain.Apart))) rfl hb0 rfl) rfl<|A0 (A9a rfl rfl) rfl<|B2 (rs:=[.b x9]) rfl rfl (A2 rfl (A2 rfl B4)) ((A2e (show Impl _ _ 101 [] [(.ptr (H.length + 2) 0),(.ptr (H.length + 1) 0)] (fun (y:VaPair)=>Y8 y s3.2 a2) (fun (y:VaPair)=>[(.agg (C1 y))]) (fun (y:Bool)=>[.b y]) from ⟨⟨A8,(by rw [List.length_append]; exact (A1 (D5 rfl) (A1 (D5 rfl) A8)))⟩,fun H' hle hag c y r hr=>(A6w (B3q (hag _ _ (F3 rfl)) (hag _ _ (F3 rfl)) hr)).frz⟩) hx9).frz)<|es (ra8 rfl rfl rfl rfl rfl rfl rfl rfl)<|wi hs3 rfl (fun hc10 hs3=>?_) fun hc10 hs3=>?_
     ·refine s0<|qm rfl<|es (ra1 rfl)<|C4 ?_
      obtain rfl:=os hs3
      exact lx rfl (And.intro rfl (retq trivial (B1 rfl B7) (A5 rfl B6) (A1 A4 A8))) (Sub.refl _)
     ·refine C2<|r0<|A0 (D7 rfl rfl) rfl<|qm rfl<|en (ra7 rfl rfl rfl rfl rfl rfl rfl) ?_
      cases hs3
      exact lnT () rfl (su7 rfl rfl rfl rfl rfl rfl rfl)
   ·refine E3 ?_
    obtain rfl:=os hs3
    exact lx rfl px (su3 rfl rfl rfl)
  ·rcases o11 with vo11_0 | vo11_1
   ·rintro e s' H' - ⟨rfl,hret⟩
    cases h
    exact hret
   ·rintro e s' H' - ⟨rfl,rfl,rfl⟩
    refine s0<|oB h fun x12 hx12 h=>qm rfl<|qm rfl<|A0 (M9 rfl rfl) rfl<|A0 (C3 rfl) rfl<|A0 (C3 rfl) rfl<|A0 (I0 (x:=(.seq 4 (List.map C0 a0.VaTrain.Vans))) rfl hb0 rfl) rfl<|qm rfl<|A0 (O0 rfl rfl) rfl<|A0 (D4 (f:=C0) rfl rfl hx12) rfl<|A0 (R6 (ds:=(List.drop 1 (C0 x12))) rfl rfl) rfl<|A0 (D6 rfl rfl) rfl<|A0 (A8p rfl rfl) rfl<|qm rfl<|es (ra1 rfl)<|C4 ?_
    obtain rfl:=os h
    exact retq trivial (B1 rfl B7) (A5 rfl B6) (A1 A4 A8)
def V9 (a1:(IArr 6)) (a2:Int) (x5:VaCrate) (x8:(List VaCrate)) (s9:(Int × Int × (List Int))):Option ((Int × Int × (List Int)) ⊕ (List Int)) :=
 if (decide (s9.2.1 < (List.length x8:Int))) = true then
  (idx x8 s9.2.1).bind fun x12 =>
  (A0y 6 (IArr.l a1) s9.2.1).bind fun x13 =>
  (if ((x13 == (w64 (a2 + 1))) && (decide (x12.Stop < x5.Stop))) = true then
  (B30 .i64 s9.1 x12.Stop).bind fun x16 =>
  some ((B7m x16 1) == 0)
  else
  some false).bind fun x17 =>
  if x17 = true then
  (D3e .i64 1 x12.Stop).bind fun x19 =>
  (idx s9.2.2 x12.Stop).bind fun x20 =>
  (idx s9.2.2 x12.Stop).bind fun x21 =>
  some (.inl ((orI s9.1 x19),(w64 (s9.2.1 + 1)),(A1w s9.2.2 x12.Stop (w64 (x20 + 1)))))
  else
  some (.inl (s9.1,(w64 (s9.2.1 + 1)),s9.2.2))
 else
  some (.inr s9.2.2)
def A04 (a0:van_train) (a1:(IArr 6)) (a2:Int) (s2:(Int × (List Int))):Option ((Int × (List Int)) ⊕ (List Int)) :=
 if (decide (s2.1 < (List.length a0.VaTrain.Crates:Int))) = true then
  (idx a0.VaTrain.Crates s2.1).bind fun x5 =>
  (A0y 6 (IArr.l a1) s2.1).bind fun x6 =>
  if (x6 != (w64 (a2 + 1))) = true then
  some (.inl ((w64 (s2.1 + 1)),s2.2))
  else
  (slc a0.VaTrain.Crates 0 s2.1).bind fun x8 =>
  (loop (V9 a1 a2 x5 x8) (0,0,s2.2)).bind fun (o22:(List Int)) =>
  some (.inl ((w64 (s2.1 + 1)),o22))
 else
  some (.inr s2.2)
def L4 (a0:van_train) (a1:(IArr 6)) (a2:Int):Option (List Int) :=
 (B8e 8 a0.VaTrain.Stops 0).bind fun x1 =>
 (loop (A04 a0 a1 a2) (0,x1)).bind fun (o23:(List Int)) =>
 some o23
theorem A3a {c:Sc} {H:A6} {a0:van_train} {m0_5:AV} {b0:Nat} (hb0:hcells H b0 = some [(.seq 4 (List.map C0 a0.VaTrain.Vans)),.i a0.VaTrain.Stops,.i a0.VaTrain.Handle,(.seq 4 (List.map A9 a0.VaTrain.Crates)),(.seq 2 (List.map C1 a0.VaTrain.Apart)),m0_5]) {a1:(IArr 6)} {a2:Int} {r:(List Int)} (h:L4 a0 a1 a2 = some r) :
  F2 tab c H (.fn (.func 65) [] []) [.ptr b0 0,(.agg ((cA .i64) a1)),.i a2] [(.fresh 1 (List.map cI r))]:= by
 unfold L4 at h
 refine cE rfl rfl<|sg 0 rfl<|A0 (B9t rfl) rfl<|qm rfl<|es (ra3 rfl rfl rfl)<|sg 1 rfl<|oB h fun x1 hx1 h=>qm rfl<|A0 (M9 rfl rfl) rfl<|A0 (C3 rfl) rfl<|A0 (C3 rfl) rfl<|A0 (I0 (x:=(.i a0.VaTrain.Stops)) rfl hb0 rfl) rfl<|A0 (C7e (f:=cI) rfl rfl rfl hx1) rfl<|qm rfl<|es (ra4 rfl rfl rfl rfl)<|B3<|s0<|qm rfl<|A0 (M9 rfl rfl) rfl<|A0 (C3 rfl) rfl<|A0 (C3 rfl) rfl<|A0 (I0 (x:=(.seq 4 (List.map A9 a0.VaTrain.Crates))) rfl hb0 rfl) rfl<|A0 (D3 (f:=A9) rfl) rfl<|qm rfl<|es (ra7 rfl rfl rfl rfl rfl rfl rfl)<|B9<|oB h fun o23 ho23 h=>wl (fun s2=>[(0,.ptr b0 0),(2,.i a2),(4,(.ptr (H.length + 0) 0)),(7,(.asl (H.length + 1) (List.length s2.2))),(23,(.seq 4 (List.map A9 a0.VaTrain.Crates))),(24,(.i (List.length a0.VaTrain.Crates:Int))),(25,.i s2.1)]) (fun (q3:Unit) s2=>[(.cells ((cA .i64) a1)),(.arr 1 false (List.map cI s2.2))]) 2 (fun r e s' H'=>PX 0 [(7,(.asl (H.length + 1) (List.length r)))] (H++[(.cells ((cA .i64) a1)),(.arr 1 false (List.map cI r))]) e s' H') () ho23 rfl rfl (fun _ _=>rfl) (fun _=>rfl) rfl (fun s2=>(bdc (C1m hb0) (bdc A4 (bdc (D5 rfl) (bdc (U8 rfl) (bdc D8 (bdc A4 (bdc A4 bdn)))))))) (fun q3 s2 ys2 hs2=>?_) ?_
 ·unfold A04 at hs2
  refine s0<|A0 (F4 rfl rfl) rfl<|es (ra8 rfl rfl rfl rfl rfl rfl rfl rfl)<|B3<|wi hs2 rfl (fun hc4 hs2=>?_) fun hc4 hs2=>?_
  ·refine C2<|B3<|B9<|sg 2 rfl<|oB hs2 fun x5 hx5 hs2=>qm rfl<|A0 (D4 (f:=A9) rfl rfl hx5) rfl<|A0 (K0 rfl rfl) rfl<|A0 E6 rfl<|qm rfl<|G6 (E2 (ds:=(A9 x5)) rfl rfl rfl rfl (E1 rfl) rfl) rfl<|es (ra9 rfl rfl rfl rfl rfl rfl rfl rfl rfl)<|B3<|s0<|oB hs2 fun x6 hx6 hs2=>qm rfl<|A0 (Z4 rfl rfl hx6) rfl<|A0 (A3r rfl rfl hx6) rfl<|qm rfl<|A0 (D7 rfl rfl) rfl<|A0 (F8 rfl rfl) rfl<|es (ra10 rfl rfl rfl rfl rfl rfl rfl rfl rfl rfl)<|wi hs2 rfl (fun hc7 hs2=>?_) fun hc7 hs2=>?_
   ·refine E3<|r0<|A0 (D7 rfl rfl) rfl<|qm rfl<|en (ra7 rfl rfl rfl rfl rfl rfl rfl) ?_
    cases hs2
    exact lnT () rfl (su7 rfl rfl rfl rfl rfl rfl rfl)
   ·refine C2<|s0<|qm rfl<|es (ra10 rfl rfl rfl rfl rfl rfl rfl rfl rfl rfl)<|s0<|oB hs2 fun x8 hx8 hs2=>qm rfl<|A0 (M9 rfl rfl) rfl<|A0 (C3 rfl) rfl<|A0 (C3 rfl) rfl<|A0 (I0 (x:=(.seq 4 (List.map A9 a0.VaTrain.Crates))) rfl hb0 rfl) rfl<|qm rfl<|A0 (C3n (f:=A9) rfl rfl rfl hx8) rfl<|A0 (D3 (f:=A9) rfl) rfl<|qm rfl<|es (ra12 rfl rfl rfl rfl rfl rfl rfl rfl rfl rfl rfl rfl)<|B9<|oB hs2 fun o22 ho22 hs2=>wl (fun s9=>[(0,.ptr b0 0),(2,.i a2),(4,(.ptr (H.length + 0) 0)),(7,(.asl (H.length + 1) (List.length s9.2.2))),(9,(.ptr (H.length + 2) 0)),(10,.i s9.1),(23,(.seq 4 (List.map A9 a0.VaTrain.Crates))),(24,(.i (List.length a0.VaTrain.Crates:Int))),(25,.i s2.1),(42,(.seq 4 (List.map A9 x8))),(43,(.i (List.length x8:Int))),(44,.i s9.2.1)]) (fun (q10:Unit) s9=>[(.cells ((cA .i64) a1)),(.arr 1 false (List.map cI s9.2.2)),(.cells (A9 x5))]) 3 (fun r e s' H'=>PX 2 [(0,.ptr b0 0),(2,.i a2),(4,(.ptr (H.length + 0) 0)),(7,(.asl (H.length + 1) (List.length r))),(23,(.seq 4 (List.map A9 a0.VaTrain.Crates))),(24,(.i (List.length a0.VaTrain.Crates:Int))),(25,.i s2.1)] (H++[(.cells ((cA .i64) a1)),(.arr 1 false (List.map cI r)),(.cells (A9 x5))]) e s' H') () ho22 rfl rfl (fun _ _=>rfl) (fun _=>rfl) rfl (fun s9=>(bdc (C1m hb0) (bdc A4 (bdc (D5 rfl) (bdc (U8 rfl) (bdc (D5 rfl) (bdc A4 (bdc D8 (bdc A4 (bdc A4 (bdc D8 (bdc A4 (bdc A4 bdn))))))))))))) (fun q10 s9 ys9 hs9=>?_) ?_
    ·unfold V9 at hs9
     refine s0<|A0 (F4 rfl rfl) rfl<|es (ra13 rfl rfl rfl rfl rfl rfl rfl rfl rfl rfl rfl rfl rfl)<|B3<|wi hs9 rfl (fun hc11 hs9=>?_) fun hc11 hs9=>?_
     ·refine C2<|B3<|B9<|sg 3 rfl<|oB hs9 fun x12 hx12 hs9=>qm rfl<|A0 (D4 (f:=A9) rfl rfl hx12) rfl<|A0 (K0 rfl rfl) rfl<|A0 E6 rfl<|qm rfl<|G6 (E2 (ds:=(A9 x12)) rfl rfl rfl rfl (E1 rfl) rfl) rfl<|es (ra14 rfl rfl rfl rfl rfl rfl rfl rfl rfl rfl rfl rfl rfl rfl)<|s0<|oB hs9 fun x13 hx13 hs9=>oB hs9 fun x17 hx17 hs9=>qm rfl<|A0 (Z4 rfl rfl hx13) rfl<|A0 (A3r rfl rfl hx13) rfl<|qm rfl<|A0 (D7 rfl rfl) rfl<|A0 (G7 rfl rfl) rfl<|qm rfl<|gp 6 61 (.b ((x13 == (w64 (a2 + 1))) && (decide (x12.Stop < x5.Stop)))) 55 rfl rfl (fun hg14=>?_) (fun hg14=>?_) ?_
      ·exact gT rfl hg14<|A0 (C3 rfl) rfl<|gT rfl hg14<|A0 (B5 rfl rfl rfl) rfl<|gT rfl hg14<|A0 (C3 rfl) rfl<|gT rfl hg14<|A0 (B5 rfl rfl rfl) rfl<|gT rfl hg14<|A0 (F4 rfl rfl) rfl<|A0 (C8 rfl hg14 rfl) rfl<|ge 6 (by rw [hg14]; rfl) rfl rfl
      ·exact nT rfl hg14 rfl<|nT rfl hg14 rfl<|nT rfl hg14 rfl<|nT rfl hg14 rfl<|nT rfl hg14 rfl<|A0 (C7 rfl hg14 rfl) rfl<|ge 6 (by rw [hg14]; rfl) rfl rfl
      refine qm rfl<|gp 7 69 (.b x17) 62 rfl rfl (fun hg15=>?_) (fun hg15=>?_) ?_
      ·refine oB (bt hx17 hg15) fun x16 hx16 hx17=>?_
       obtain rfl:=os hx17
       exact gT rfl hg15<|qm rfl<|gT rfl hg15<|A0 (C3 rfl) rfl<|gT rfl hg15<|A0 (B5 rfl rfl rfl) rfl<|gT rfl hg15<|A0 (B6d rfl rfl hx16) rfl<|gT rfl hg15<|A0 (J9 (v:=(.i (B7m x16 1))) rfl rfl rfl) rfl<|gT rfl hg15<|A0 (G7 rfl rfl) rfl<|A0 (C8 rfl hg15 rfl) rfl<|ge 7 rfl rfl rfl
      ·obtain rfl:=os (bf hx17 hg15)
       exact nT rfl hg15 rfl<|nT rfl hg15 rfl<|nT rfl hg15 rfl<|nT rfl hg15 rfl<|nT rfl hg15 rfl<|nT rfl hg15 rfl<|A0 (C7 rfl hg15 rfl) rfl<|ge 7 rfl rfl rfl
      refine es (ra14 rfl rfl rfl rfl rfl rfl rfl rfl rfl rfl rfl rfl rfl rfl)<|wi hs9 rfl (fun hc18 hs9=>?_) fun hc18 hs9=>?_
      ·refine s0<|oB hs9 fun x19 hx19 hs9=>qm rfl<|A0 (C3 rfl) rfl<|A0 (B5 rfl rfl rfl) rfl<|A0 (E1m rfl rfl hx19) rfl<|A0 (J9 (v:=(.i (orI s9.1 x19))) rfl rfl rfl) rfl<|qm rfl<|es (ra13 rfl rfl rfl rfl rfl rfl rfl rfl rfl rfl rfl rfl rfl)<|r0<|oB hs9 fun x20 hx20 hs9=>oB hs9 fun x21 hx21 hs9=>qm rfl<|A0 (C3 rfl) rfl<|A0 (B5 rfl rfl rfl) rfl<|A0 (V3 (f:=cI) rfl rfl rfl rfl hx20) rfl<|A0 (A38 (x:=(.i x20)) rfl rfl (List.length_map _) (V6 hx20) rfl) rfl<|A0 (D7 rfl rfl) rfl<|A0 (V3 (f:=cI) rfl rfl rfl rfl hx21) rfl<|G6 (A4i (ds:=cI (w64 (x20 + 1))) rfl rfl rfl rfl rfl (List.length_map _) (V6 hx21) rfl rfl) rfl ?_
       rw [A3q]
       rw [show List.length s9.2.2 = List.length (A1w s9.2.2 x12.Stop (w64 (x20 + 1))) from (T8 _ _ _).symm]
       refine en (ra12 rfl rfl rfl rfl rfl rfl rfl rfl rfl rfl rfl rfl)<|r0<|A0 (D7 rfl rfl) rfl<|qm rfl<|en (ra12 rfl rfl rfl rfl rfl rfl rfl rfl rfl rfl rfl rfl) ?_
       cases hs9
       exact lnT () rfl (su12 rfl rfl rfl rfl rfl rfl rfl rfl rfl rfl rfl rfl)
      ·refine C2<|r0<|A0 (D7 rfl rfl) rfl<|qm rfl<|en (ra12 rfl rfl rfl rfl rfl rfl rfl rfl rfl rfl rfl rfl) ?_
       cases hs9
       exact lnT () rfl (su12 rfl rfl rfl rfl rfl rfl rfl rfl rfl rfl rfl rfl)
     ·refine E3 ?_
      obtain rfl:=os hs9
      exact lx rfl px (su7 rfl rfl rfl rfl rfl rfl rfl)
    ·rintro e s' H' - ⟨rfl,rfl,rfl⟩
     refine r0<|A0 (D7 rfl rfl) rfl<|qm rfl<|en (ra7 rfl rfl rfl rfl rfl rfl rfl) ?_
     cases hs2
     exact lnT () rfl (su7 rfl rfl rfl rfl rfl rfl rfl)
  ·refine E3 ?_
   obtain rfl:=os hs2
   exact lx rfl px (su1 rfl)
 ·rintro e s' H' - ⟨rfl,rfl,rfl⟩
  refine s0<|qm rfl<|qm rfl<|es (ra1 rfl)<|C4 ?_
  obtain rfl:=os h
  exact retq trivial (B1 rfl B7) (A5 (A6n rfl (List.length_map _)) B6) (A1 A0v A8)
def A03 (a0:van_train) (a2:Int) (x3:(List Int)) (s4:(Int × Span × (List Span))):Option ((Int × Span × (List Span)) ⊕ (Span × (List Span))) :=
 if (decide (s4.1 < (List.length x3:Int))) = true then
  (idx x3 s4.1).bind fun x7 =>
  (idx a0.VaTrain.Vans a2).bind fun x8 =>
  (idx x8.Legs s4.1).bind fun x9 =>
  (idx a0.VaTrain.Vans a2).bind fun x10 =>
  (idx x10.Legs s4.1).bind fun x11 =>
  (app 16 s4.2.2 [(Span.mk (w64 (s4.2.1.Lo + x9.Lo)) (w64 (s4.2.1.Hi + x11.Hi)))]).bind fun x12 =>
  some (.inl ((w64 (s4.1 + 1)),(Span.mk (w64 ((w64 (s4.2.1.Lo + x9.Lo)) + (w64 (x7 * a0.VaTrain.Handle)))) (w64 ((w64 (s4.2.1.Hi + x11.Hi)) + (w64 (x7 * a0.VaTrain.Handle))))),x12))
 else
  some (.inr (s4.2.1,s4.2.2))
def L3 (a0:van_train) (a1:(IArr 6)) (a2:Int):Option (List Span) :=
 (idx a0.VaTrain.Vans a2).bind fun x1 =>
 (idx a0.VaTrain.Vans a2).bind fun x2 =>
 (L4 a0 a1 a2).bind fun x3 =>
 (loop (A03 a0 a2 x3) (0,(Span.mk x1.Leave x2.Leave),([]:List Span))).bind fun (o13:(Span × (List Span))) =>
 some o13.2
theorem A29 {c:Sc} {H:A6} {a0:van_train} {m0_5:AV} {b0:Nat} (hb0:hcells H b0 = some [(.seq 4 (List.map C0 a0.VaTrain.Vans)),.i a0.VaTrain.Stops,.i a0.VaTrain.Handle,(.seq 4 (List.map A9 a0.VaTrain.Crates)),(.seq 2 (List.map C1 a0.VaTrain.Apart)),m0_5]) {a1:(IArr 6)} {a2:Int} {r:(List Span)} (h:L3 a0 a1 a2 = some r) :
  F2 tab c H (.fn (.func 68) [] []) [.ptr b0 0,(.agg ((cA .i64) a1)),.i a2] [(.fresh 2 (List.map C6 r))]:= by
 unfold L3 at h
 refine cE rfl rfl<|sg 0 rfl<|A0 (B9t rfl) rfl<|A0 A5y rfl<|es (ra3 rfl rfl rfl)<|sg 2 rfl<|oB h fun x1 hx1 h=>oB h fun x2 hx2 h=>qm rfl<|A0 (M9 rfl rfl) rfl<|A0 (C3 rfl) rfl<|A0 (C3 rfl) rfl<|N8 [2] (W5 [2] rfl I7 rfl rfl) (seen0 rfl) (I0 (x:=(.seq 4 (List.map C0 a0.VaTrain.Vans))) rfl hb0 rfl) rfl<|qm rfl<|N8 [2] (W5 [2] rfl I7 rfl rfl) (seen0 rfl) (D4 (f:=C0) rfl rfl hx1) rfl<|A0 (R6 (ds:=(List.drop 2 (C0 x1))) rfl rfl) rfl<|N8 [2] (W5 [2] rfl I7 rfl rfl) (seen0 rfl) (D6 rfl rfl) rfl<|qm rfl<|A0 (M9 rfl rfl) rfl<|A0 (C3 rfl) rfl<|A0 (C3 rfl) rfl<|N8 [2] (W5 [2] rfl I7 rfl rfl) (seen0 rfl) (I0 (x:=(.seq 4 (List.map C0 a0.VaTrain.Vans))) rfl hb0 rfl) rfl<|qm rfl<|N8 [2] (W5 [2] rfl I7 rfl rfl) (seen0 rfl) (D4 (f:=C0) rfl rfl hx2) rfl<|A0 (R6 (ds:=(List.drop 2 (C0 x2))) rfl rfl) rfl<|N8 [2] (W5 [2] rfl I7 rfl rfl) (seen0 rfl) (D6 rfl rfl) rfl<|A0 (N7 (cs:=C6 (Span.mk x1.Leave x2.Leave)) rfl rfl) rfl<|A0 E6 rfl<|G6 (E2 (ds:=(C6 (Span.mk x1.Leave x2.Leave))) rfl rfl rfl rfl (E1 rfl) rfl) rfl<|es (ra4 rfl rfl rfl rfl)<|sg 3 rfl<|A0 A5y rfl<|es (ra5 rfl rfl rfl rfl rfl)<|B3<|s0<|oB h fun x3 hx3 h=>qm rfl<|A0 (F7 (kk:=.i64) (v:=a1) rfl rfl) rfl<|qm rfl<|B2 (rs:=[(.seq 1 (List.map cI x3))]) rfl rfl (A2 rfl (A2 A1b (A2 rfl B4))) ((A3a (T7 hb0 _) hx3).frz)<|A0 (D3 (f:=cI) rfl) rfl<|qm rfl<|es (ra7 rfl rfl rfl rfl rfl rfl rfl)<|B9<|oB h fun o13 ho13 h=>wl (fun s4=>[(0,.ptr b0 0),(2,.i a2),(7,(.ptr (H.length + 2) 0)),(8,(.asl (H.length + 3) (List.length s4.2.2))),(33,(.seq 1 (List.map cI x3))),(34,(.i (List.length x3:Int))),(35,.i s4.1)]) (fun (q5:Unit) s4=>[(.cells ((cA .i64) a1)),(.arr 2 false (List.map C6 ([]:List Span))),(.cells (C6 s4.2.1)),(.arr 2 false (List.map C6 s4.2.2))]) 4 (fun r e s' H'=>PX 0 [(8,(.asl (H.length + 3) (List.length r.2)))] (H++[(.cells ((cA .i64) a1)),(.arr 2 false (List.map C6 ([]:List Span))),(.cells (C6 r.1)),(.arr 2 false (List.map C6 r.2))]) e s' H') () ho13 rfl rfl (fun _ _=>rfl) (fun _=>rfl) rfl (fun s4=>(bdc (C1m hb0) (bdc A4 (bdc (D5 rfl) (bdc (U8 rfl) (bdc D8 (bdc A4 (bdc A4 bdn)))))))) (fun q5 s4 ys4 hs4=>?_) ?_
 ·unfold A03 at hs4
  refine s0<|A0 (F4 rfl rfl) rfl<|es (ra8 rfl rfl rfl rfl rfl rfl rfl rfl)<|B3<|wi hs4 rfl (fun hc6 hs4=>?_) fun hc6 hs4=>?_
  ·refine C2<|B3<|B9<|s0<|oB hs4 fun x7 hx7 hs4=>qm rfl<|A0 (D4 (f:=cI) rfl rfl hx7) rfl<|A0 (D6 rfl rfl) rfl<|qm rfl<|qm rfl<|es (ra9 rfl rfl rfl rfl rfl rfl rfl rfl rfl)<|s0<|oB hs4 fun x8 hx8 hs4=>oB hs4 fun x9 hx9 hs4=>A0 (C3 rfl) rfl<|A0 (B5 rfl rfl rfl) rfl<|qm rfl<|A0 (M9 rfl rfl) rfl<|A0 (C3 rfl) rfl<|A0 (C3 rfl) rfl<|A0 (I0 (x:=(.seq 4 (List.map C0 a0.VaTrain.Vans))) rfl hb0 rfl) rfl<|qm rfl<|A0 (D4 (f:=C0) rfl rfl hx8) rfl<|A0 (R6 (ds:=(List.drop 3 (C0 x8))) rfl rfl) rfl<|A0 (D6 rfl rfl) rfl<|qm rfl<|A0 (D4 (f:=C6) rfl rfl hx9) rfl<|A0 (R6 (ds:=(C6 x9)) rfl rfl) rfl<|A0 (D6 rfl rfl) rfl<|A0 (D7 rfl rfl) rfl<|A0 (C3 rfl) rfl<|G6 (E2 (ds:=(C6 (Span.mk (w64 (s4.2.1.Lo + x9.Lo)) s4.2.1.Hi))) rfl rfl rfl rfl (E1 rfl) rfl) rfl<|es (ra9 rfl rfl rfl rfl rfl rfl rfl rfl rfl)<|s0<|oB hs4 fun x10 hx10 hs4=>oB hs4 fun x11 hx11 hs4=>A0 (C3 rfl) rfl<|A0 (B5 rfl rfl rfl) rfl<|qm rfl<|A0 (M9 rfl rfl) rfl<|A0 (C3 rfl) rfl<|A0 (C3 rfl) rfl<|A0 (I0 (x:=(.seq 4 (List.map C0 a0.VaTrain.Vans))) rfl hb0 rfl) rfl<|qm rfl<|A0 (D4 (f:=C0) rfl rfl hx10) rfl<|A0 (R6 (ds:=(List.drop 3 (C0 x10))) rfl rfl) rfl<|A0 (D6 rfl rfl) rfl<|qm rfl<|A0 (D4 (f:=C6) rfl rfl hx11) rfl<|A0 (R6 (ds:=(List.drop 1 (C6 x11))) rfl rfl) rfl<|A0 (D6 rfl rfl) rfl<|A0 (D7 rfl rfl) rfl<|A0 (C3 rfl) rfl<|G6 (E2 (ds:=(C6 (Span.mk (w64 (s4.2.1.Lo + x9.Lo)) (w64 (s4.2.1.Hi + x11.Hi))))) rfl rfl rfl rfl (E1 rfl) rfl) rfl<|es (ra8 rfl rfl rfl rfl rfl rfl rfl rfl)<|s0<|oB hs4 fun x12 hx12 hs4=>qm rfl<|A0 (C5 rfl rfl rfl) rfl<|A0 (I8 (rows:=List.map C6 [(Span.mk (w64 (s4.2.1.Lo + x9.Lo)) (w64 (s4.2.1.Hi + x11.Hi)))]) rfl rfl (E4 (fun _=>rfl) _)) rfl<|A35 (W8 (f:=C6) rfl rfl rfl rfl U0 (fun _=>rfl) hx12) rfl ?_
   refine qm rfl<|es (ra8 rfl rfl rfl rfl rfl rfl rfl rfl)<|s0<|A0 (C3 rfl) rfl<|A0 (B5 rfl rfl rfl) rfl<|qm rfl<|qm rfl<|A0 (M9 rfl rfl) rfl<|A0 (C3 rfl) rfl<|A0 (C3 rfl) rfl<|A0 (I0 (x:=(.i a0.VaTrain.Handle)) rfl hb0 rfl) rfl<|A0 (C14 rfl rfl) rfl<|A0 (D7 rfl rfl) rfl<|A0 (C3 rfl) rfl<|G6 (E2 (ds:=(C6 (Span.mk (w64 ((w64 (s4.2.1.Lo + x9.Lo)) + (w64 (x7 * a0.VaTrain.Handle)))) (w64 (s4.2.1.Hi + x11.Hi))))) rfl rfl rfl rfl (E1 rfl) rfl) rfl<|es (ra8 rfl rfl rfl rfl rfl rfl rfl rfl)<|r0<|A0 (C3 rfl) rfl<|A0 (B5 rfl rfl rfl) rfl<|qm rfl<|qm rfl<|A0 (M9 rfl rfl) rfl<|A0 (C3 rfl) rfl<|A0 (C3 rfl) rfl<|A0 (I0 (x:=(.i a0.VaTrain.Handle)) rfl hb0 rfl) rfl<|A0 (C14 rfl rfl) rfl<|A0 (D7 rfl rfl) rfl<|A0 (C3 rfl) rfl<|G6 (E2 (ds:=(C6 (Span.mk (w64 ((w64 (s4.2.1.Lo + x9.Lo)) + (w64 (x7 * a0.VaTrain.Handle)))) (w64 ((w64 (s4.2.1.Hi + x11.Hi)) + (w64 (x7 * a0.VaTrain.Handle))))))) rfl rfl rfl rfl (E1 rfl) rfl) rfl<|en (ra7 rfl rfl rfl rfl rfl rfl rfl)<|r0<|A0 (D7 rfl rfl) rfl<|qm rfl<|en (ra7 rfl rfl rfl rfl rfl rfl rfl) ?_
   cases hs4
   exact lnT () rfl (su7 rfl rfl rfl rfl rfl rfl rfl)
  ·refine E3 ?_
   obtain rfl:=os hs4
   exact lx rfl px (su1 rfl)
 ·rintro e s' H' - ⟨rfl,rfl,rfl⟩
  refine s0<|qm rfl<|qm rfl<|es (ra1 rfl)<|C4 ?_
  obtain rfl:=os h
  exact retq trivial (B1 rfl B7) (A5 (A6n rfl (List.length_map _)) B6) (A1 A0v A8)
def P7 (a0:van_train) (a1:(IArr 6)) (a2:Int):Option Int :=
 (A0y 6 (IArr.l a1) a2).bind fun x1 =>
 if (x1 == 0) = true then
  some 2
 else
  (idx a0.VaTrain.Crates a2).bind fun x3 =>
  (A0y 6 (IArr.l a1) a2).bind fun x4 =>
  (L3 a0 a1 (w64 (x4 - 1))).bind fun x5 =>
  (idx x5 x3.Stop).bind fun x6 =>
  if (decide (x6.Hi≤x3.By)) = true then
  some 1
  else
  if (decide (x6.Lo > x3.By)) = true then
   some 2
  else
   some 0
theorem A6m {c:Sc} {H:A6} {a0:van_train} {m0_5:AV} {b0:Nat} (hb0:hcells H b0 = some [(.seq 4 (List.map C0 a0.VaTrain.Vans)),.i a0.VaTrain.Stops,.i a0.VaTrain.Handle,(.seq 4 (List.map A9 a0.VaTrain.Crates)),(.seq 2 (List.map C1 a0.VaTrain.Apart)),m0_5]) {a1:(IArr 6)} {a2:Int} {r:Int} (h:P7 a0 a1 a2 = some r) :
  F2 tab c H (.fn (.func 70) [] []) [.ptr b0 0,(.agg ((cA .i64) a1)),.i a2] [.i r]:= by
 unfold P7 at h
 refine cE rfl rfl<|sg 0 rfl<|A0 (B9t rfl) rfl<|qm rfl<|es (ra3 rfl rfl rfl)<|B3<|s0<|oB h fun x1 hx1 h=>qm rfl<|A0 (Z4 rfl rfl hx1) rfl<|A0 (A3r rfl rfl hx1) rfl<|A0 (G7 rfl rfl) rfl<|es (ra4 rfl rfl rfl rfl)<|wi h rfl (fun hc2 h=>?_) fun hc2 h=>?_
 ·refine s0<|qm rfl<|es (ra1 rfl)<|C4 ?_
  obtain rfl:=os h
  exact retq trivial (B1 rfl B7) (A5 rfl B6) (A1 A4 A8)
 ·refine C2<|sg 1 rfl<|oB h fun x3 hx3 h=>qm rfl<|A0 (M9 rfl rfl) rfl<|A0 (C3 rfl) rfl<|A0 (C3 rfl) rfl<|A0 (I0 (x:=(.seq 4 (List.map A9 a0.VaTrain.Crates))) rfl hb0 rfl) rfl<|qm rfl<|A0 (D4 (f:=A9) rfl rfl hx3) rfl<|A0 (K0 rfl rfl) rfl<|A0 E6 rfl<|G6 (E2 (ds:=(A9 x3)) rfl rfl rfl rfl (E1 rfl) rfl) rfl<|es (ra4 rfl rfl rfl rfl)<|B3<|sg 2 rfl<|oB h fun x4 hx4 h=>oB h fun x5 hx5 h=>oB h fun x6 hx6 h=>qm rfl<|N8 [2] (W5 [2] rfl I7 rfl rfl) (seen0 rfl) (F7 (kk:=.i64) (v:=a1) rfl rfl) rfl<|qm rfl<|A0 (Z4 rfl rfl hx4) rfl<|N8 [2] (W5 [2] rfl I7 rfl rfl) (seen0 rfl) (A3r rfl rfl hx4) rfl<|A0 (O0 rfl rfl) rfl<|N8 [2] (W5 [2] rfl I7 rfl rfl) (seen0 rfl) (B5x (rs:=[(.seq 2 (List.map C6 x5))]) rfl rfl (F1 rfl (F1 D8s (F1 rfl R7))) (A2 rfl (A2 A1b (A2 rfl B4))) ((A29 (C8l hb0 _) hx5).frz)) rfl<|A0 (C3 rfl) rfl<|N8 [2] (W5 [2] rfl I7 rfl rfl) (seen0 rfl) (B5 rfl rfl rfl) rfl<|N8 [2] (W5 [2] rfl I7 rfl rfl) (seen0 rfl) (D4 (f:=C6) rfl rfl hx6) rfl<|N8 [2] (W5 [2] rfl I7 rfl rfl) (seen0 rfl) (K0 rfl rfl) rfl<|A0 E6 rfl<|G6 (E2 (ds:=(C6 x6)) rfl rfl rfl rfl (E1 rfl) rfl) rfl<|es (ra2 rfl rfl)<|B9<|s0<|A0 (C3 rfl) rfl<|A0 (B5 rfl rfl rfl) rfl<|A0 (C3 rfl) rfl<|A0 (B5 rfl rfl rfl) rfl<|A0 (A8p rfl rfl) rfl<|qm rfl<|es (ra3 rfl rfl rfl)<|wi h rfl (fun hc7 h=>?_) fun hc7 h=>?_
  ·refine s0<|qm rfl<|es (ra1 rfl)<|C4 ?_
   obtain rfl:=os h
   exact retq trivial (B1 rfl B7) (A5 rfl B6) (A1 A4 A8)
  ·refine s0<|A0 (C3 rfl) rfl<|A0 (B5 rfl rfl rfl) rfl<|A0 (C3 rfl) rfl<|A0 (B5 rfl rfl rfl) rfl<|A0 (A37 rfl rfl) rfl<|qm rfl<|es (ra1 rfl)<|wi h rfl (fun hc8 h=>?_) fun hc8 h=>?_
   ·refine s0<|qm rfl<|es (ra1 rfl)<|C4 ?_
    obtain rfl:=os h
    exact retq trivial (B1 rfl B7) (A5 rfl B6) (A1 A4 A8)
   ·refine C2<|s0<|qm rfl<|es (ra1 rfl)<|C4 ?_
    obtain rfl:=os h
    exact retq trivial (B1 rfl B7) (A5 rfl B6) (A1 A4 A8)
def B08 (a1:(List Int)) (s6:(Int × (IArr 6))):Option ((Int × (IArr 6)) ⊕ (IArr 6)) :=
 if (decide (s6.1 < (List.length a1:Int))) = true then
  (idx a1 s6.1).bind fun x9 =>
  (A0y 6 (IArr.l s6.2) s6.1).bind fun x10 =>
  some (.inl ((w64 (s6.1 + 1)),(IArr.set s6.2 s6.1 (w64 (x9 + 1)))))
 else
  some (.inr s6.2)
def B09 (a0:VaTrain) (a1:(List Int)) (o11:(IArr 6)) (s12:Int):Option (Int ⊕ (Unit ⊕ Unit)) :=
 if (decide (s12 < (List.length a1:Int))) = true then
  (I5 (van_train.mk a0) o11 s12).bind fun x15 =>
  if (!x15) = true then
  some (.inr (.inr ()))
  else
  some (.inl (w64 (s12 + 1)))
 else
  some (.inr (.inl ()))
def T9 (a0:VaTrain) (a1:(List Int)) (a2:Int):Option (Int × Int) :=
 (V8 a0).bind fun x1 =>
 if (x1.2.2 != 0) = true then
  some (0,x1.2.2)
 else
  if ((List.length a1:Int) != (List.length a0.Crates:Int)) = true then
  some (0,3)
  else
  (G3 (-1) (w64 ((List.length a0.Vans:Int) - 1)) a1).bind fun x4 =>
  if x4 = true then
   some (0,4)
  else
   (loop (B08 a1) (0,(IArr.zero 6))).bind fun (o11:(IArr 6)) =>
   (loop (B09 a0 a1 o11) 0).bind fun (o17:(Unit ⊕ Unit)) =>
   match o17 with
   | (.inl vo17_0) =>
   (G3 0 (w64 ((List.length a0.Crates:Int) - 1)) [a2]).bind fun x18 =>
   if x18 = true then
    some (0,4)
   else
    (P7 (van_train.mk a0) o11 a2).bind fun x20 =>
    some (x20,0)
   | (.inr vo17_1) =>
   some (0,9)
theorem A00 {c:Sc} {H:A6} {a0:VaTrain} {a1:(List Int)} {a2:Int} {r:(Int × Int)} (h:T9 a0 a1 a2 = some r) :
  F2 tab c H (.fn (.func 24) [] []) [(.agg (A3 a0)),(.seq 1 (List.map cI a1)),.i a2] [.i r.1,.i r.2]:= by
 unfold T9 at h
 refine cE rfl rfl<|sg 0 rfl<|A0 (G0 (cs:=A3 a0) rfl rfl rfl) rfl<|qm rfl<|qm rfl<|es (ra3 rfl rfl rfl)<|sg 1 rfl<|A0 (C5 rfl rfl rfl) rfl<|qm rfl<|V4 (as2:=[(.agg (A3 a0)),(.seq 1 (List.map cI a1))]) (H1:=(H++[(.cells (A3 a0)),.dead])) rfl rfl (A2 (D2 rfl) (A2 rfl B4)) rfl rfl rfl (A26 rfl)<|sg 2 rfl<|A0 (G0 (cs:=A3 a0) rfl rfl rfl) rfl<|qm rfl<|A0 (E6 (zs:=(cA .i64) (IArr.zero 6))) rfl<|qm rfl<|es (ra3 rfl rfl rfl)<|s0<|A0 (C5 rfl rfl rfl) rfl<|V4 (as2:=[(.agg (A3 a0))]) (H1:=(H++[(.cells (A3 a0)),.dead,(.cells (A3 a0)),(.cells ((cA .i64) (IArr.zero 6)))])) rfl rfl (A2 (D2 rfl) B4) rfl rfl rfl (A26 rfl)<|sg 4 rfl<|A0 (G0 (cs:=A3 a0) rfl rfl rfl) rfl<|qm rfl<|qm rfl<|es (ra1 rfl)<|B3<|s0<|oB h fun x1 hx1 h=>A0 (C5 rfl rfl rfl) rfl<|B2 (rs:=[.i x1.1,.i x1.2.1,.i x1.2.2]) rfl rfl (A2 (D2 rfl) B4) ((Z5 hx1).frz)<|qm rfl<|A0 (A7 rfl rfl) rfl<|A0 (A7 rfl rfl) rfl<|A0 (A7 rfl rfl) rfl<|qm rfl<|qm rfl<|qm rfl<|es (ra2 rfl rfl)<|s0<|qm rfl<|A0 (F8 rfl rfl) rfl<|es (ra3 rfl rfl rfl)<|wi h rfl (fun hc2 h=>?_) fun hc2 h=>?_
 ·refine s0<|qm rfl<|qm rfl<|qm rfl<|es (ra2 rfl rfl)<|C4<|InlQ.mk trivial ⟨_,_,_,[(.lit (.pointer none)),.i x1.2.2],_,(B1 rfl (B1 rfl B7)),(A5 rfl (A5 rfl B6)),(Z1 (A1 A4 (A1 A4 A8)) (D9 rfl (D9 rfl M5)) (K7 _ _ _)),?_⟩
  refine qm rfl<|A0 (A7 rfl rfl) rfl<|A0 (A7 rfl rfl) rfl<|qm rfl<|qm rfl<|es (ra5 rfl rfl rfl rfl rfl)<|B3<|B9<|s0<|qm rfl<|A0 (F8 rfl rfl) rfl<|qm rfl<|es (ra6 rfl rfl rfl rfl rfl rfl)<|N0 rfl hc2<|s0<|A0 (F7 (kk:=.i64) (v:=(IArr.zero 6)) rfl rfl) rfl<|qm rfl<|G6 (H9 (kk:=.i64) (u:=(IArr.zero 6)) (v:=(IArr.zero 6)) rfl rfl rfl) rfl<|qm rfl<|qm rfl<|es (ra3 rfl rfl rfl)<|C4<|InlQ.mk trivial ⟨_,_,_,[(.lit (.pointer none)),(.agg ((cA .i64) (IArr.zero 6))),.i x1.2.2],_,(B1 rfl (M2 (F7 (kk:=.i64) rfl rfl) (B1 rfl B7))),(A5 rfl (A5 A2f (A5 rfl B6))),(Z1 (A1 A4 (A1 A5m (A1 A4 A8))) (D9 rfl (D9 A15 (D9 rfl M5))) (K7 _ _ _)),?_⟩
  refine qm rfl<|A0 (A7 rfl rfl) rfl<|A0 (A7 rfl rfl) rfl<|A0 (A7 rfl rfl) rfl<|A0 (E6 (zs:=(cA .i64) (IArr.zero 6))) rfl<|qm rfl<|G6 (H9 (kk:=.i64) (u:=(IArr.zero 6)) (v:=(IArr.zero 6)) rfl rfl rfl) rfl<|qm rfl<|es (ra5 rfl rfl rfl rfl rfl)<|B3<|B9<|s0<|qm rfl<|A0 (F8 rfl rfl) rfl<|qm rfl<|es (ra6 rfl rfl rfl rfl rfl rfl)<|N0 rfl hc2<|s0<|qm rfl<|qm rfl<|qm rfl<|es (ra2 rfl rfl)<|C4 ?_
  obtain rfl:=os h
  exact retq trivial (B1 rfl (B1 rfl B7)) (A5 rfl (A5 rfl B6)) (A1 A4 (A1 A4 A8))
 ·refine C2<|sg 5 rfl<|A0 (C5 rfl rfl rfl) rfl<|A0 A9k rfl<|A0 (N7 (cs:=[(.seq 4 (List.map C0 a0.Vans)),.i a0.Stops,.i a0.Handle,(.seq 4 (List.map A9 a0.Crates)),(.seq 2 (List.map C1 a0.Apart)),(.mp (H.length + 5))]) rfl rfl) rfl<|A0 (G0 (cs:=[(.seq 4 (List.map C0 a0.Vans)),.i a0.Stops,.i a0.Handle,(.seq 4 (List.map A9 a0.Crates)),(.seq 2 (List.map C1 a0.Apart)),(.mp (H.length + 5))]) rfl rfl rfl) rfl<|qm rfl<|qm rfl<|es (ra2 rfl rfl)<|C4<|InlQ.mk trivial ⟨_,_,_,[(.ptr (H.length + 6) 0),.i 0],_,(B1 rfl (B1 rfl B7)),(A5 rfl (A5 rfl B6)),(A24 (U4 (A2z rfl)) (D9 rfl (D9 rfl M5))),?_⟩
  refine qm rfl<|A0 (A7 rfl rfl) rfl<|A0 (A7 rfl rfl) rfl<|qm rfl<|qm rfl<|es (ra5 rfl rfl rfl rfl rfl)<|B3<|B9<|s0<|qm rfl<|A0 (J9 (v:=(.b false)) rfl rfl rfl) rfl<|qm rfl<|es (ra6 rfl rfl rfl rfl rfl rfl)<|A0c rfl rfl<|s0<|qm rfl<|A0 (D3 (f:=cI) rfl) rfl<|A0 (C3 rfl) rfl<|A0 (B5 rfl rfl rfl) rfl<|A0 (D3 (f:=A9) rfl) rfl<|A0 (F8 rfl rfl) rfl<|qm rfl<|es (ra5 rfl rfl rfl rfl rfl)<|wi h rfl (fun hc3 h=>?_) fun hc3 h=>?_
  ·refine s0<|A0 (F7 (kk:=.i64) (v:=(IArr.zero 6)) rfl rfl) rfl<|qm rfl<|G6 (H9 (kk:=.i64) (u:=(IArr.zero 6)) (v:=(IArr.zero 6)) rfl rfl rfl) rfl<|qm rfl<|es (ra3 rfl rfl rfl)<|C4<|InlQ.mk trivial ⟨_,_,_,[(.lit (.pointer none)),(.agg ((cA .i64) (IArr.zero 6))),.i 3],_,(B1 rfl (M2 (F7 (kk:=.i64) rfl rfl) (B1 rfl B7))),(A5 rfl (A5 A2f (A5 rfl B6))),(Z1 (A1 A4 (A1 A5m (A1 A4 A8))) (D9 rfl (D9 A15 (D9 rfl M5))) (K7 _ _ _)),?_⟩
   refine qm rfl<|A0 (A7 rfl rfl) rfl<|A0 (A7 rfl rfl) rfl<|A0 (A7 rfl rfl) rfl<|A0 (E6 (zs:=(cA .i64) (IArr.zero 6))) rfl<|qm rfl<|G6 (H9 (kk:=.i64) (u:=(IArr.zero 6)) (v:=(IArr.zero 6)) rfl rfl rfl) rfl<|qm rfl<|es (ra5 rfl rfl rfl rfl rfl)<|B3<|B9<|s0<|qm rfl<|A0 (J9 (v:=(.b true)) rfl rfl rfl) rfl<|qm rfl<|es (ra6 rfl rfl rfl rfl rfl rfl)<|N0 rfl rfl<|s0<|qm rfl<|qm rfl<|qm rfl<|es (ra2 rfl rfl)<|C4 ?_
   obtain rfl:=os h
   exact retq trivial (B1 rfl (B1 rfl B7)) (A5 rfl (A5 rfl B6)) (A1 A4 (A1 A4 A8))
  ·refine s0<|oB h fun x4 hx4 h=>A0 (C3 rfl) rfl<|A0 (B5 rfl rfl rfl) rfl<|A0 (D3 (f:=C0) rfl) rfl<|A0 (O0 rfl rfl) rfl<|qm rfl<|B2 (rs:=[.b x4]) rfl rfl (A2 rfl (A2 rfl (A2 rfl B4))) ((H7 hx4).frz)<|qm rfl<|es (ra4 rfl rfl rfl rfl)<|wi h rfl (fun hc5 h=>?_) fun hc5 h=>?_
   ·refine s0<|A0 (F7 (kk:=.i64) (v:=(IArr.zero 6)) rfl rfl) rfl<|qm rfl<|G6 (H9 (kk:=.i64) (u:=(IArr.zero 6)) (v:=(IArr.zero 6)) rfl rfl rfl) rfl<|qm rfl<|es (ra3 rfl rfl rfl)<|C4<|InlQ.mk trivial ⟨_,_,_,[(.lit (.pointer none)),(.agg ((cA .i64) (IArr.zero 6))),.i 4],_,(B1 rfl (M2 (F7 (kk:=.i64) rfl rfl) (B1 rfl B7))),(A5 rfl (A5 A2f (A5 rfl B6))),(Z1 (A1 A4 (A1 A5m (A1 A4 A8))) (D9 rfl (D9 A15 (D9 rfl M5))) (K7 _ _ _)),?_⟩
    refine qm rfl<|A0 (A7 rfl rfl) rfl<|A0 (A7 rfl rfl) rfl<|A0 (A7 rfl rfl) rfl<|A0 (E6 (zs:=(cA .i64) (IArr.zero 6))) rfl<|qm rfl<|G6 (H9 (kk:=.i64) (u:=(IArr.zero 6)) (v:=(IArr.zero 6)) rfl rfl rfl) rfl<|qm rfl<|es (ra5 rfl rfl rfl rfl rfl)<|B3<|B9<|s0<|qm rfl<|A0 (J9 (v:=(.b true)) rfl rfl rfl) rfl<|qm rfl<|es (ra6 rfl rfl rfl rfl rfl rfl)<|N0 rfl rfl<|s0<|qm rfl<|qm rfl<|qm rfl<|es (ra2 rfl rfl)<|C4 ?_
    obtain rfl:=os h
    exact retq trivial (B1 rfl (B1 rfl B7)) (A5 rfl (A5 rfl B6)) (A1 A4 (A1 A4 A8))
   ·refine C2<|B3<|s0<|qm rfl<|A0 (D3 (f:=cI) rfl) rfl<|qm rfl<|es (ra6 rfl rfl rfl rfl rfl rfl)<|B9<|oB h fun o11 ho11 h=>wl (fun s6=>[(1,(.seq 1 (List.map cI a1))),(4,(.ptr (H.length + 6) 0)),(5,(.ptr (H.length + 3) 0)),(36,(.seq 1 (List.map cI a1))),(37,(.i (List.length a1:Int))),(38,.i s6.1)]) (fun (q7:Unit) s6=>[(.cells (A3 a0)),.dead,(.cells (A3 a0)),(.cells ((cA .i64) s6.2)),(.cells (A3 a0)),(.map []),(.cells [(.seq 4 (List.map C0 a0.Vans)),.i a0.Stops,.i a0.Handle,(.seq 4 (List.map A9 a0.Crates)),(.seq 2 (List.map C1 a0.Apart)),(.mp (H.length + 5))])]) 7 (fun r e s' H'=>PX 1 [(1,(.seq 1 (List.map cI a1))),(4,(.ptr (H.length + 6) 0)),(5,(.ptr (H.length + 3) 0))] (H++[(.cells (A3 a0)),.dead,(.cells (A3 a0)),(.cells ((cA .i64) r)),(.cells (A3 a0)),(.map []),(.cells [(.seq 4 (List.map C0 a0.Vans)),.i a0.Stops,.i a0.Handle,(.seq 4 (List.map A9 a0.Crates)),(.seq 2 (List.map C1 a0.Apart)),(.mp (H.length + 5))])]) e s' H') () ho11 rfl rfl (fun _ _=>rfl) (fun _=>rfl) rfl (fun s6=>(bdc D8 (bdc (D5 rfl) (bdc (D5 rfl) (bdc D8 (bdc A4 (bdc A4 bdn))))))) (fun q7 s6 ys6 hs6=>?_) ?_
    ·unfold B08 at hs6
     refine s0<|A0 (F4 rfl rfl) rfl<|es (ra7 rfl rfl rfl rfl rfl rfl rfl)<|B3<|wi hs6 rfl (fun hc8 hs6=>?_) fun hc8 hs6=>?_
     ·refine C2<|B3<|B9<|s0<|oB hs6 fun x9 hx9 hs6=>qm rfl<|A0 (D4 (f:=cI) rfl rfl hx9) rfl<|A0 (D6 rfl rfl) rfl<|qm rfl<|qm rfl<|es (ra8 rfl rfl rfl rfl rfl rfl rfl rfl)<|r0<|oB hs6 fun x10 hx10 hs6=>qm rfl<|qm rfl<|A0 (D7 rfl rfl) rfl<|A0 (Z4 rfl rfl hx10) rfl<|G6 (A93 rfl rfl rfl hx10) rfl<|en (ra6 rfl rfl rfl rfl rfl rfl)<|r0<|A0 (D7 rfl rfl) rfl<|qm rfl<|en (ra6 rfl rfl rfl rfl rfl rfl) ?_
      cases hs6
      exact lnT () rfl (su6 rfl rfl rfl rfl rfl rfl)
     ·refine E3 ?_
      obtain rfl:=os hs6
      exact lx rfl px (su3 rfl rfl rfl)
    ·rintro e s' H' - ⟨rfl,rfl,rfl⟩
     refine B3<|s0<|qm rfl<|A0 (D3 (f:=cI) rfl) rfl<|qm rfl<|es (ra4 rfl rfl rfl rfl)<|B9<|oB h fun o17 ho17 h=>wl (fun s12=>[(4,(.ptr (H.length + 6) 0)),(5,(.ptr (H.length + 3) 0)),(49,(.i (List.length a1:Int))),(50,.i s12)]) (fun (q13:Unit) s12=>[(.cells (A3 a0)),.dead,(.cells (A3 a0)),(.cells ((cA .i64) o11)),(.cells (A3 a0)),(.map []),(.cells [(.seq 4 (List.map C0 a0.Vans)),.i a0.Stops,.i a0.Handle,(.seq 4 (List.map A9 a0.Crates)),(.seq 2 (List.map C1 a0.Apart)),(.mp (H.length + 5))])]) 7 (fun r e s' H'=>(match r with | (.inl v)=>PX 3 [(4,(.ptr (H.length + 6) 0)),(5,(.ptr (H.length + 3) 0))] (H++[(.cells (A3 a0)),.dead,(.cells (A3 a0)),(.cells ((cA .i64) o11)),(.cells (A3 a0)),(.map []),(.cells [(.seq 4 (List.map C0 a0.Vans)),.i a0.Stops,.i a0.Handle,(.seq 4 (List.map A9 a0.Crates)),(.seq 2 (List.map C1 a0.Apart)),(.mp (H.length + 5))])]) e s' H' | (.inr v)=>e = .ret∧s' = [(4,(.lit (.pointer none))),(5,(.ptr (H.length + 3) 0)),(6,.i 9)]∧H' = (H++[(.cells (A3 a0)),.dead,(.cells (A3 a0)),(.cells ((cA .i64) o11)),(.cells (A3 a0)),(.map []),(.cells [(.seq 4 (List.map C0 a0.Vans)),.i a0.Stops,.i a0.Handle,(.seq 4 (List.map A9 a0.Crates)),(.seq 2 (List.map C1 a0.Apart)),(.mp (H.length + 5))])]):Prop)) () ho17 rfl rfl (fun _ _=>rfl) (fun _=>rfl) rfl (fun s12=>(bdc (D5 rfl) (bdc (D5 rfl) (bdc A4 (bdc A4 bdn))))) (fun q13 s12 ys12 hs12=>?_) ?_
     ·unfold B09 at hs12
      refine s0<|A0 (F4 rfl rfl) rfl<|es (ra5 rfl rfl rfl rfl rfl)<|B3<|wi hs12 rfl (fun hc14 hs12=>?_) fun hc14 hs12=>?_
      ·refine C2<|B3<|B9<|s0<|qm rfl<|qm rfl<|es (ra5 rfl rfl rfl rfl rfl)<|s0<|oB hs12 fun x15 hx15 hs12=>qm rfl<|A0 (F7 (kk:=.i64) (v:=o11) rfl rfl) rfl<|qm rfl<|B2 (rs:=[.b x15]) rfl rfl (A2 rfl (A2 A1b (A2 rfl B4))) ((P2 (F3 rfl) hx15).frz)<|A0 (O3 rfl) rfl<|es (ra5 rfl rfl rfl rfl rfl)<|wi hs12 rfl (fun hc16 hs12=>?_) fun hc16 hs12=>?_
       ·refine s0<|A0 (F7 (kk:=.i64) (v:=o11) rfl rfl) rfl<|qm rfl<|G6 (H9 (kk:=.i64) (u:=o11) (v:=o11) rfl rfl rfl) rfl<|qm rfl<|es (ra3 rfl rfl rfl)<|C4 ?_
        obtain rfl:=os hs12
        exact lx rfl (And.intro rfl (And.intro rfl rfl)) (su3 rfl rfl rfl)
       ·refine C2<|r0<|A0 (D7 rfl rfl) rfl<|qm rfl<|en (ra4 rfl rfl rfl rfl) ?_
        cases hs12
        exact lnT () rfl (su4 rfl rfl rfl rfl)
      ·refine E3 ?_
       obtain rfl:=os hs12
       exact lx rfl px (su2 rfl rfl)
     ·rcases o17 with vo17_0 | vo17_1
      ·rintro e s' H' - ⟨rfl,rfl,rfl⟩
       refine s0<|qm rfl<|A0 (F7 (kk:=.i64) (v:=o11) rfl rfl) rfl<|qm rfl<|G6 (H9 (kk:=.i64) (u:=o11) (v:=o11) rfl rfl rfl) rfl<|qm rfl<|es (ra3 rfl rfl rfl)<|C4<|InlQ.mk trivial ⟨_,_,_,[(.ptr (H.length + 6) 0),(.agg ((cA .i64) o11)),.i 0],_,(B1 rfl (M2 (F7 (kk:=.i64) rfl rfl) (B1 rfl B7))),(A5 rfl (A5 A2f (A5 rfl B6))),(A24 (U4 (A2z rfl)) (D9 rfl (D9 A15 (D9 rfl M5)))),?_⟩
       refine qm rfl<|A0 (A7 rfl rfl) rfl<|A0 (A7 rfl rfl) rfl<|A0 (A7 rfl rfl) rfl<|A0 (E6 (zs:=(cA .i64) (IArr.zero 6))) rfl<|qm rfl<|G6 (H9 (kk:=.i64) (u:=(IArr.zero 6)) (v:=o11) rfl rfl rfl) rfl<|qm rfl<|es (ra5 rfl rfl rfl rfl rfl)<|B3<|B9<|s0<|qm rfl<|A0 (J9 (v:=(.b false)) rfl rfl rfl) rfl<|qm rfl<|es (ra6 rfl rfl rfl rfl rfl rfl)<|A0c rfl rfl<|s0<|oB h fun x18 hx18 h=>A0 (C3 rfl) rfl<|A0 (B5 rfl rfl rfl) rfl<|A0 (D3 (f:=A9) rfl) rfl<|A0 (O0 rfl rfl) rfl<|qm rfl<|A0 (I8 (rows:=List.map cI [a2]) rfl rfl (E4 (fun _=>rfl) _)) rfl<|B2 (rs:=[.b x18]) rfl rfl (A2 rfl (A2 rfl (A2 rfl B4))) ((H7 hx18).frz)<|qm rfl<|es (ra4 rfl rfl rfl rfl)<|wi h rfl (fun hc19 h=>?_) fun hc19 h=>?_
       ·refine s0<|qm rfl<|qm rfl<|es (ra2 rfl rfl)<|C4 ?_
        obtain rfl:=os h
        exact retq trivial (B1 rfl (B1 rfl B7)) (A5 rfl (A5 rfl B6)) (A1 A4 (A1 A4 A8))
       ·refine C2<|s0<|oB h fun x20 hx20 h=>qm rfl<|A0 (F7 (kk:=.i64) (v:=o11) rfl rfl) rfl<|qm rfl<|B2 (rs:=[.i x20]) rfl rfl (A2 rfl (A2 A1b (A2 rfl B4))) ((A6m (F3 rfl) hx20).frz)<|qm rfl<|qm rfl<|es (ra2 rfl rfl)<|C4 ?_
        obtain rfl:=os h
        exact retq trivial (B1 rfl (B1 rfl B7)) (A5 rfl (A5 rfl B6)) (A1 A4 (A1 A4 A8))
      ·rintro e s' H' - ⟨rfl,rfl,rfl⟩
       refine InlQ.mk trivial ⟨_,_,_,[(.lit (.pointer none)),(.agg ((cA .i64) o11)),.i 9],_,(B1 rfl (M2 (F7 (kk:=.i64) rfl rfl) (B1 rfl B7))),(A5 rfl (A5 A2f (A5 rfl B6))),(Z1 (A1 A4 (A1 A5m (A1 A4 A8))) (D9 rfl (D9 A15 (D9 rfl M5))) (K7 _ _ _)),?_⟩
       refine qm rfl<|A0 (A7 rfl rfl) rfl<|A0 (A7 rfl rfl) rfl<|A0 (A7 rfl rfl) rfl<|A0 (E6 (zs:=(cA .i64) (IArr.zero 6))) rfl<|qm rfl<|G6 (H9 (kk:=.i64) (u:=(IArr.zero 6)) (v:=o11) rfl rfl rfl) rfl<|qm rfl<|es (ra5 rfl rfl rfl rfl rfl)<|B3<|B9<|s0<|qm rfl<|A0 (J9 (v:=(.b true)) rfl rfl rfl) rfl<|qm rfl<|es (ra6 rfl rfl rfl rfl rfl rfl)<|N0 rfl rfl<|s0<|qm rfl<|qm rfl<|qm rfl<|es (ra2 rfl rfl)<|C4 ?_
       obtain rfl:=os h
       exact retq trivial (B1 rfl (B1 rfl B7)) (A5 rfl (A5 rfl B6)) (A1 A4 (A1 A4 A8))
def A5r (a0:(List Int)) (s1:Int):Option (Int ⊕ (Int ⊕ Unit)) :=
 if (decide (s1 < (List.length a0:Int))) = true then
  (idx a0 s1).bind fun x4 =>
  if (x4 != 0) = true then
  some (.inr (.inl x4))
  else
  some (.inl (w64 (s1 + 1)))
 else
  some (.inr (.inr ()))
def B0f (a0:(List Int)):Option Int :=
 (loop (A5r a0) 0).bind fun (o6:(Int ⊕ Unit)) =>
 match o6 with
 | (.inl vo6_0) =>
  some vo6_0
 | (.inr vo6_1) =>
  some 0
theorem C5p {c:Sc} {H:A6} {a0:(List Int)} {r:Int} (h:B0f a0 = some r) :
  F2 tab c H (.fn (.func 78) [] []) [(.seq 1 (List.map cI a0))] [.i r]:= by
 unfold B0f at h
 refine cE rfl rfl<|s0<|qm rfl<|es (ra1 rfl)<|s0<|qm rfl<|es (ra2 rfl rfl)<|B3<|s0<|qm rfl<|A0 (D3 (f:=cI) rfl) rfl<|qm rfl<|es (ra4 rfl rfl rfl rfl)<|B9<|oB h fun o6 ho6 h=>wl (fun s1=>[(3,.i 0),(6,(.seq 1 (List.map cI a0))),(7,(.i (List.length a0:Int))),(8,.i s1)]) (fun (q2:Unit) s1=>[]) 0 (fun r e s' H'=>(match r with | (.inl v)=>e = .ret∧RetQ H [.tmp 2] [.i v] e s' H' | (.inr v)=>PX 0 [(3,.i 0)] (H++[]) e s' H':Prop)) () ho6 rfl rfl (fun _ _=>rfl) (fun _=>rfl) rfl (fun s1=>(bdc A4 (bdc D8 (bdc A4 (bdc A4 bdn))))) (fun q2 s1 ys1 hs1=>?_) ?_
 ·unfold A5r at hs1
  refine s0<|A0 (F4 rfl rfl) rfl<|es (ra5 rfl rfl rfl rfl rfl)<|B3<|wi hs1 rfl (fun hc3 hs1=>?_) fun hc3 hs1=>?_
  ·refine C2<|B3<|B9<|s0<|oB hs1 fun x4 hx4 hs1=>A0 (D4 (f:=cI) rfl rfl hx4) rfl<|A0 (D6 rfl rfl) rfl<|qm rfl<|es (ra5 rfl rfl rfl rfl rfl)<|s0<|qm rfl<|qm rfl<|A0 (F8 rfl rfl) rfl<|es (ra6 rfl rfl rfl rfl rfl rfl)<|wi hs1 rfl (fun hc5 hs1=>?_) fun hc5 hs1=>?_
   ·refine s0<|qm rfl<|qm rfl<|es (ra1 rfl)<|C4 ?_
    obtain rfl:=os hs1
    exact lx rfl (And.intro rfl (retq trivial (B1 rfl B7) (A5 rfl B6) (A1 A4 A8))) (Sub.refl _)
   ·refine C2<|r0<|A0 (D7 rfl rfl) rfl<|qm rfl<|en (ra4 rfl rfl rfl rfl) ?_
    cases hs1
    exact lnT () rfl (su4 rfl rfl rfl rfl)
  ·refine E3 ?_
   obtain rfl:=os hs1
   exact lx rfl px (su1 rfl)
 ·rcases o6 with vo6_0 | vo6_1
  ·rintro e s' H' - ⟨rfl,hret⟩
   cases h
   exact hret
  ·rintro e s' H' - ⟨rfl,rfl,rfl⟩
   refine s0<|qm rfl<|qm rfl<|es (ra1 rfl)<|C4 ?_
   obtain rfl:=os h
   exact retq trivial (B1 rfl B7) (A5 rfl B6) (A1 A4 A8)
theorem fr5:c5.free = true:= by kernel_rfl
theorem fr6:c6.free = true:= by kernel_rfl
theorem fr9:c9.free = true:= by kernel_rfl
theorem fr12:c12.free = true:= by kernel_rfl
theorem fr13:c13.free = true:= by kernel_rfl
theorem fr14:c14.free = true:= by kernel_rfl
theorem fr15:c15.free = true:= by kernel_rfl
theorem fr16:c16.free = true:= by kernel_rfl
theorem fr17:c17.free = true:= by kernel_rfl
theorem fr18:c18.free = true:= by kernel_rfl
theorem fr20:c20.free = true:= by kernel_rfl
theorem fr21:c21.free = true:= by kernel_rfl
theorem fr23:c23.free = true:= by kernel_rfl
theorem fr24:c24.free = true:= by kernel_rfl
theorem fr26:c26.free = true:= by kernel_rfl
theorem fr27:c27.free = true:= by kernel_rfl
theorem fr29:c29.free = true:= by kernel_rfl
theorem fr30:c30.free = true:= by kernel_rfl
theorem fr31:c31.free = true:= by kernel_rfl
theorem fr32:c32.free = true:= by kernel_rfl
theorem fr33:c33.free = true:= by kernel_rfl
theorem fr34:c34.free = true:= by kernel_rfl
theorem fr35:c35.free = true:= by kernel_rfl
theorem fr36:c36.free = true:= by kernel_rfl
theorem fr37:c37.free = true:= by kernel_rfl
theorem fr38:c38.free = true:= by kernel_rfl
theorem fr39:c39.free = true:= by kernel_rfl
theorem fr40:c40.free = true:= by kernel_rfl
theorem fr41:c41.free = true:= by kernel_rfl
theorem fr45:c45.free = true:= by kernel_rfl
theorem fr46:c46.free = true:= by kernel_rfl
theorem fr47:c47.free = true:= by kernel_rfl
theorem fr48:c48.free = true:= by kernel_rfl
theorem fr49:c49.free = true:= by kernel_rfl
theorem fr50:c50.free = true:= by kernel_rfl
theorem fr51:c51.free = true:= by kernel_rfl
theorem fr52:c52.free = true:= by kernel_rfl
theorem fr53:c53.free = true:= by kernel_rfl
theorem fr54:c54.free = true:= by kernel_rfl
theorem fr55:c55.free = true:= by kernel_rfl
theorem fr56:c56.free = true:= by kernel_rfl
theorem fr57:c57.free = true:= by kernel_rfl
theorem fr58:c58.free = true:= by kernel_rfl
theorem fr59:c59.free = true:= by kernel_rfl
theorem fr60:c60.free = true:= by kernel_rfl
theorem fr61:c61.free = true:= by kernel_rfl
theorem fr62:c62.free = true:= by kernel_rfl
theorem fr63:c63.free = true:= by kernel_rfl
theorem fr64:c64.free = true:= by kernel_rfl
theorem fr65:c65.free = true:= by kernel_rfl
theorem fr68:c68.free = true:= by kernel_rfl
theorem fr69:c69.free = true:= by kernel_rfl
theorem fr70:c70.free = true:= by kernel_rfl
theorem fr71:c71.free = true:= by kernel_rfl
theorem fr72:c72.free = true:= by kernel_rfl
theorem fr73:c73.free = true:= by kernel_rfl
theorem fr74:c74.free = true:= by kernel_rfl
theorem fr75:c75.free = true:= by kernel_rfl
theorem fr76:c76.free = true:= by kernel_rfl
theorem fr77:c77.free = true:= by kernel_rfl
theorem fr78:c78.free = true:= by kernel_rfl
theorem fr79:c79.free = true:= by kernel_rfl
theorem fr80:c80.free = true:= by kernel_rfl
theorem fr81:c81.free = true:= by kernel_rfl
theorem fr82:c82.free = true:= by kernel_rfl
theorem fr83:c83.free = true:= by kernel_rfl
theorem fr84:c84.free = true:= by kernel_rfl
theorem fr85:c85.free = true:= by kernel_rfl
theorem fr86:c86.free = true:= by kernel_rfl
theorem fr87:c87.free = true:= by kernel_rfl
theorem fr88:c88.free = true:= by kernel_rfl
theorem fr89:c89.free = true:= by kernel_rfl
theorem fr90:c90.free = true:= by kernel_rfl
theorem fr91:c91.free = true:= by kernel_rfl
theorem fr92:c92.free = true:= by kernel_rfl
theorem fr93:c93.free = true:= by kernel_rfl
theorem fr94:c94.free = true:= by kernel_rfl
theorem fr95:c95.free = true:= by kernel_rfl
theorem fr96:c96.free = true:= by kernel_rfl
theorem fr97:c97.free = true:= by kernel_rfl
theorem fr98:c98.free = true:= by kernel_rfl
theorem fr99:c99.free = true:= by kernel_rfl
theorem fr100:c100.free = true:= by kernel_rfl
theorem fr101:c101.free = true:= by kernel_rfl
theorem fr102:c102.free = true:= by kernel_rfl
theorem fr103:c103.free = true:= by kernel_rfl
theorem fr104:c104.free = true:= by kernel_rfl
theorem fr105:c105.free = true:= by kernel_rfl
theorem fr106:c106.free = true:= by kernel_rfl
theorem fr107:c107.free = true:= by kernel_rfl
theorem fr108:c108.free = true:= by kernel_rfl
theorem fr109:c109.free = true:= by kernel_rfl
theorem fr110:c110.free = true:= by kernel_rfl
theorem fr111:c111.free = true:= by kernel_rfl
theorem fr112:c112.free = true:= by kernel_rfl
theorem fr113:c113.free = true:= by kernel_rfl
theorem fr114:c114.free = true:= by kernel_rfl
theorem fr115:c115.free = true:= by kernel_rfl
theorem fr116:c116.free = true:= by kernel_rfl
theorem fr117:c117.free = true:= by kernel_rfl
theorem fr118:c118.free = true:= by kernel_rfl
theorem B5q:B7f tab:= by
 intro i af h
 unfold tab at h
 split at h
 ·cases h; exact fr5
 ·cases h; exact fr6
 ·cases h; exact fr9
 ·cases h; exact fr12
 ·cases h; exact fr13
 ·cases h; exact fr14
 ·cases h; exact fr15
 ·cases h; exact fr16
 ·cases h; exact fr17
 ·cases h; exact fr18
 ·cases h; exact fr20
 ·cases h; exact fr21
 ·cases h; exact fr23
 ·cases h; exact fr24
 ·cases h; exact fr26
 ·cases h; exact fr27
 ·cases h; exact fr29
 ·cases h; exact fr30
 ·cases h; exact fr31
 ·cases h; exact fr32
 ·cases h; exact fr33
 ·cases h; exact fr34
 ·cases h; exact fr35
 ·cases h; exact fr36
 ·cases h; exact fr37
 ·cases h; exact fr38
 ·cases h; exact fr39
 ·cases h; exact fr40
 ·cases h; exact fr41
 ·cases h; exact fr45
 ·cases h; exact fr46
 ·cases h; exact fr47
 ·cases h; exact fr48
 ·cases h; exact fr49
 ·cases h; exact fr50
 ·cases h; exact fr51
 ·cases h; exact fr52
 ·cases h; exact fr53
 ·cases h; exact fr54
 ·cases h; exact fr55
 ·cases h; exact fr56
 ·cases h; exact fr57
 ·cases h; exact fr58
 ·cases h; exact fr59
 ·cases h; exact fr60
 ·cases h; exact fr61
 ·cases h; exact fr62
 ·cases h; exact fr63
 ·cases h; exact fr64
 ·cases h; exact fr65
 ·cases h; exact fr68
 ·cases h; exact fr69
 ·cases h; exact fr70
 ·cases h; exact fr71
 ·cases h; exact fr72
 ·cases h; exact fr73
 ·cases h; exact fr74
 ·cases h; exact fr75
 ·cases h; exact fr76
 ·cases h; exact fr77
 ·cases h; exact fr78
 ·cases h; exact fr79
 ·cases h; exact fr80
 ·cases h; exact fr81
 ·cases h; exact fr82
 ·cases h; exact fr83
 ·cases h; exact fr84
 ·cases h; exact fr85
 ·cases h; exact fr86
 ·cases h; exact fr87
 ·cases h; exact fr88
 ·cases h; exact fr89
 ·cases h; exact fr90
 ·cases h; exact fr91
 ·cases h; exact fr92
 ·cases h; exact fr93
 ·cases h; exact fr94
 ·cases h; exact fr95
 ·cases h; exact fr96
 ·cases h; exact fr97
 ·cases h; exact fr98
 ·cases h; exact fr99
 ·cases h; exact fr100
 ·cases h; exact fr101
 ·cases h; exact fr102
 ·cases h; exact fr103
 ·cases h; exact fr104
 ·cases h; exact fr105
 ·cases h; exact fr106
 ·cases h; exact fr107
 ·cases h; exact fr108
 ·cases h; exact fr109
 ·cases h; exact fr110
 ·cases h; exact fr111
 ·cases h; exact fr112
 ·cases h; exact fr113
 ·cases h; exact fr114
 ·cases h; exact fr115
 ·cases h; exact fr116
 ·cases h; exact fr117
 ·cases h; exact fr118
 ·cases h
end Vn
end
section
set_option maxRecDepth 100000
namespace Vn
open Go Am Go.Proofs.Ytjjmechghfjbmaa.Cd
section
variable {σ ρ:Type}
def B94 (t:VaTrain) (rec:Int→IArr 6→σ→Option (IArr 6 × (σ ⊕ ρ))) (cr n:Int) (x:Int × IArr 6 × σ):Option ((Int × IArr 6 × σ) ⊕ ((IArr 6 × ρ) ⊕ (IArr 6 × σ))) :=
 if (decide (x.1 < n)) = true then
  (B56 (w64 (x.1 + 1)) (w64 ((List.length t.Vans:Int) + 1))).bind fun q =>
  (A0y 6 (IArr.l x.2.1) cr).bind fun _ =>
  (I5 (van_train.mk t) (IArr.set x.2.1 cr q) cr).bind fun a =>
  if a = true then
   (rec (w64 (cr + 1)) (IArr.set x.2.1 cr q) x.2.2).bind fun y =>
   match y with
   | (p',.inl s')=>some (.inl (w64 (x.1 + 1),p',s'))
   | (p',.inr r)=>some (.inr (.inl (p',r)))
  else some (.inl (w64 (x.1 + 1),IArr.set x.2.1 cr q,x.2.2))
 else some (.inr (.inr (x.2.1,x.2.2)))
def B17 (t:VaTrain) (body:IArr 6→σ→Option (σ ⊕ ρ)):Nat→Int→IArr 6→σ→Option (IArr 6 × (σ ⊕ ρ))
 | 0,_,_,_=>none
 | k + 1,cr,p,s =>
  if (cr == (List.length t.Crates:Int)) = true then (body p s).bind fun x=>some (p,x)
  else (loop (B94 t (B17 t body k) cr (w64 ((List.length t.Vans:Int) + 1))) (0,p,s)).bind fun o =>
   match o with
   | .inl (p',r)=>some (p',.inr r)
   | .inr (p',s')=>(A0y 6 (IArr.l p') cr).bind fun _=>some (IArr.set p' cr 0,.inl s')
end
def A9p (t:VaTrain) (σ ρ:Type) (body:IArr 6→σ→Option (σ ⊕ ρ)) (s:σ):Option (σ ⊕ ρ):=(B17 t body 64 0 (IArr.zero 6) s).bind fun x=>some x.2
def B2c (t:VaTrain) (m:AV):List AV:=[(.seq 4 (List.map C0 t.Vans)),.i t.Stops,.i t.Handle,(.seq 4 (List.map A9 t.Crates)),(.seq 2 (List.map C1 t.Apart)),m]
def caps (N b1:Nat):List AV:=[.ptr b1 0,.ptr (N + 0) 0,.ptr (N + 1) 0,.ptr (N + 2) 0]
def L0 (N b1:Nat) (y:AV) (p:IArr 6):List AO:=[.cells [y],.cells (cA .i64 p),.cells [.fn (.func 99) [] (caps N b1)]]
section
variable {T:Tab} {s:C9} {H0 H:A6} {l:List AO} {c:Sc} {n0:Nat} {hc:List (Option (List Nat))} {ops:List AOper} {R:C9→A6→Prop}
theorem gN {d:Nat} {op:AOp} {t:Nat} {g:Bool} {hid:List Nat} {hida:List (Nat × List Nat)} {inc src:Nat} (hg:sget s t = some (.lit (.bool g))) (hw:g = false) (hwr:writes op = true) (k:O8 T c n0 ops ((d,.tup []) :: s) H (none :: hc) R) :
  O8 T c n0 (⟨some d,op,some (t,true),hid,hida,inc,src⟩ :: ops) s H hc R:=H8 (by simp only [wanted,hg,hw]; rfl) hwr k
end
section
variable {σ ρ:Type} {t:VaTrain} {Hm:σ ⊕ ρ→A6} {N b1 bt:Nat} {m y:AV} {body:IArr 6→σ→Option (σ ⊕ ρ)}
theorem D4h (hN:∀x,(Hm x).length = N) (h1:∀x,hcells (Hm x) b1 = some [.ptr bt 0]) (ht:∀x,hcells (Hm x) bt = some (B2c t m))
  (hy:∀{L:A6} {c:Sc} {p:IArr 6} {s:σ} {o:σ ⊕ ρ},Z9 c (Hm (.inl s)++L) = true→body p s = some o→Q9 tab c (Hm (.inl s)++L) y [.agg (cA .i64 p)] [.b o.isLeft] (Hm o++L)) :
  ∀ (k:Nat) (cr:Int) (p:IArr 6) (s:σ) (p':IArr 6) (x:σ ⊕ ρ),B17 t body k cr p s = some (p',x)→∀ c:Sc,Z9 c (Hm (.inl s)++L0 N b1 y p) = true →
   Q9 tab c (Hm (.inl s)++L0 N b1 y p) (.fn (.func 99) [] (caps N b1)) [.i cr] [.b x.isLeft] (Hm x++L0 N b1 y p')
 | 0,_,_,_,_,_,h,_,_=>by cases h
 | k + 1,cr,p,s,p',x,h,c,hsc=>by
  have ih:=D4h hN h1 ht hy k
  unfold B17 at h
  have hHl:(Hm (.inl s)++L0 N b1 y p).length = N + 3:= by rw [List.length_append,hN]; rfl
  refine C2a (aq:=[.i cr,.ptr b1 0,.ptr (N + 0) 0,.ptr (N + 1) 0,.ptr (N + 2) 0]) rfl rfl rfl ?_
  have hl3:∀x p,(Hm x++L0 N b1 y p).length = N + 3:=fun x p=>by rw [List.length_append,hN]; rfl
  have hsc':∀x q,Z9 ⟨(Hm (.inl s)++L0 N b1 y p).length,c.cur :: c.outer⟩ (Hm (.inl x)++L0 N b1 y q) = true:=fun x p'=>D84 hsc (by rw [hl3,hl3]; exact Nat.le_refl _) (by rw [hl3,hl3]; exact Nat.le_refl _)
  have htk:∀x p q,(Hm x++L0 N b1 y p).take (Hm (.inl s)++L0 N b1 y q).length = Hm x++L0 N b1 y p:=fun x p q=>by rw [hl3,← hl3 x p]; exact List.take_length
  refine s0<|qm rfl<|es (ra5 rfl rfl rfl rfl rfl)<|B3<|s0<|qm rfl<|A0 (I0 rfl (h1 _) rfl) rfl<|A0 (M9 rfl rfl) rfl<|A0 (C3 rfl) rfl<|A0 (C3 rfl) rfl<|A0 (I0 rfl (ht _) rfl) rfl<|A0 (D3 (f:=A9) rfl) rfl<|A0 (G7 rfl rfl) rfl<|es (ra6 rfl rfl rfl rfl rfl rfl)<|wi h rfl (fun hc h=>?_) fun hc h=>?_
  ·refine oB h fun o ho h=>?_
   obtain ⟨rfl,rfl⟩:=Prod.mk.inj (os h)
   refine s0<|A0 (D4i (hN _) rfl rfl rfl) rfl<|A0 (C3i (hN _) rfl rfl) rfl<|A35 (A94 rfl rfl (A2 A1b B4) (hy (hsc' _ _) ho) rfl) rfl<|qm rfl<|es (ra1 rfl)<|C4 ?_
   show C5c _ _ _ _ .ret _ _
   exact D55 trivial (B1 rfl B7) (A5 (v:=.lit (.bool o.isLeft)) rfl B6) (A1 A4 A8) (htk _ _ _)
  ·refine oB h fun o ho h=>?_
   refine C2<|B3<|s0<|A0 (I0 rfl (h1 _) rfl) rfl<|A0 (M9 rfl rfl) rfl<|A0 (C3 rfl) rfl<|A0 (C3 rfl) rfl<|A0 (I0 rfl (ht _) rfl) rfl<|A0 (D3 (f:=C0) rfl) rfl<|A0 (D7 rfl rfl) rfl<|qm rfl<|es (ra6 rfl rfl rfl rfl rfl rfl)<|B9 ?_
   refine B53 (C49 (γ:=Unit) (live:=[0,1,3,4,25,26]) (body:=B94 t (B17 t body k) cr (w64 ((List.length t.Vans:Int) + 1))) (fun x=>[(0,.i cr),(1,.ptr b1 0),(3,.ptr (N + 1) 0),(4,.ptr (N + 2) 0),(25,.i (w64 ((List.length t.Vans:Int) + 1))),(26,.i x.1)]) (fun _ x=>Hm (.inl x.2.2)++L0 N b1 y x.2.1) (N + 3)
    (fun r e s' H'=>match r with
     | .inl r=>e = .ret∧s' = [(6,.b false)]∧H' = Hm (.inr r.2)++L0 N b1 y r.1
     | .inr r=>e = .exit 0∧s' = [(0,.i cr),(3,.ptr (N + 1) 0)]∧H' = Hm (.inl r.2)++L0 N b1 y r.1) (fun _ x=>hl3 _ _) (fun _=>rfl) (by decide) (fun x _=>?_) ?_ ho ()) ?_
   ·have hb:b1 < N:= by have:=A46 (h1 (.inl s)); rwa [hN] at this
    refine bdc A4 (bdc ?_ (bdc (D5 rfl) (bdc (D5 rfl) (bdc A4 (bdc A4 bdn)))))
    simp only [AV.bd]; exact Nat.ble_eq_true_of_le (by omega)
   ·intro _ x o' hb
    unfold B94 at hb
    have hcs':∀q,Z9 ⟨N + 3,(Hm (.inl s)++L0 N b1 y p).length :: c.cur :: c.outer⟩ (Hm (.inl x.2.2)++L0 N b1 y q) = true:=fun q=>by
     have:=hsc' x.2.2 q
     unfold Z9 at this ⊢
     rw [List.all_cons]
     exact Bool.and_eq_true_iff.2 ⟨Nat.ble_eq_true_of_le (Nat.le_of_eq (hl3 _ _).symm),this⟩
    have hlx:∀{z:σ ⊕ ρ} {q:IArr 6},(Hm z++L0 N b1 y q).take (N + 3) = Hm z++L0 N b1 y q:=fun {z q}=>by rw [← hl3 z q]; exact List.take_length
    refine s0<|A0 (F4 rfl rfl) rfl<|es (ra7 rfl rfl rfl rfl rfl rfl rfl)<|B3<|wi hb rfl (fun hc hb=>?_) fun hc hb=>?_
    ·refine oB hb fun q hq hb=>oB hb fun z hz hb=>oB hb fun a ha hb=>?_
     refine C2<|B3<|B9<|s0<|qm rfl<|qm rfl<|es (ra7 rfl rfl rfl rfl rfl rfl rfl)<|s0<|qm rfl<|qm rfl<|A0 (D7 rfl rfl) rfl<|A0 (I0 rfl (h1 _) rfl) rfl<|A0 (M9 rfl rfl) rfl<|A0 (C3 rfl) rfl<|A0 (C3 rfl) rfl<|A0 (I0 rfl (ht _) rfl) rfl<|A0 (D3 (f:=C0) rfl) rfl<|A0 (D7 rfl rfl) rfl<|A0 (C0n rfl rfl hq) rfl<|A0 (Z4 rfl rfl hz) rfl<|G6 (C3j (hN _) rfl rfl rfl hz) rfl<|es (ra6 rfl rfl rfl rfl rfl rfl) ?_
     have hL:(L0 N b1 y x.2.1).set 1 (.cells (cA .i64 (IArr.set x.2.1 cr q))) = L0 N b1 y (IArr.set x.2.1 cr q):=rfl
     rw [hL]
     cases a with
     | false =>
      refine s0<|A0 (I0 rfl (h1 _) rfl) rfl<|A0 (C3i (hN _) rfl rfl) rfl<|qm rfl<|B2 (rs:=[.b false]) rfl rfl (A2 rfl (A2 A1b (A2 rfl B4))) ((P2 (T7 (ht _) _) ha).frz)<|qm rfl<|nT rfl rfl rfl<|nT rfl rfl rfl<|nT rfl rfl rfl<|gN rfl rfl rfl<|nT rfl rfl rfl<|A0 (C7 rfl rfl rfl) rfl<|es (ra7 rfl rfl rfl rfl rfl rfl rfl)<|A0c rfl rfl<|C2<|r0<|A0 (D7 rfl rfl) rfl<|qm rfl<|en (ra6 rfl rfl rfl rfl rfl rfl) ?_
      cases hb
      exact ⟨rfl,su6 rfl rfl rfl rfl rfl rfl,(),hlx⟩
     | true =>
      refine oB hb fun o ho hb=>?_
      have hcc:=ih _ _ _ _ _ ho ⟨N + 3,(Hm (.inl s)++L0 N b1 y p).length :: c.cur :: c.outer⟩ (hcs' _)
      obtain ⟨p1,y1⟩:=o
      refine s0<|A0 (I0 rfl (h1 _) rfl) rfl<|A0 (C3i (hN _) rfl rfl) rfl<|qm rfl<|B2 (rs:=[.b true]) rfl rfl (A2 rfl (A2 A1b (A2 rfl B4))) ((P2 (T7 (ht _) _) ha).frz)<|qm rfl<|gT rfl rfl<|A0 (D4i (hN _) rfl rfl rfl) rfl<|gT rfl rfl<|qm rfl<|gT rfl rfl<|A0 (D7 rfl rfl) rfl<|gT rfl rfl<|A35 (A94 rfl rfl (A2 rfl B4) hcc rfl) rfl<|gT rfl rfl<|A0 (E3u rfl rfl) rfl<|A0 (C8 rfl rfl rfl) rfl<|es (ra7 rfl rfl rfl rfl rfl rfl rfl) ?_
      cases y1 with
      | inl s1 =>
       refine A0c rfl rfl<|C2<|r0<|A0 (D7 rfl rfl) rfl<|qm rfl<|en (ra6 rfl rfl rfl rfl rfl rfl) ?_
       cases hb
       exact ⟨rfl,su6 rfl rfl rfl rfl rfl rfl,(),hlx⟩
      | inr r =>
       refine N0 rfl rfl<|s0<|qm rfl<|es (ra1 rfl)<|C4 ?_
       cases hb
       exact ⟨rfl,_,Sub.refl _,rfl,rfl,rfl⟩
    ·refine E3 ?_
     cases hb
     exact ⟨rfl,_,su2 rfl rfl,rfl,rfl,rfl⟩
   ·intro e s' H' q
    obtain ⟨_,q⟩:=q
    rcases o with ⟨p1,r⟩ | ⟨p1,s1⟩
    ·obtain ⟨rfl,rfl,rfl⟩:=q
     cases h
     show C5c _ _ _ _ .ret _ _
     exact D55 trivial (B1 rfl B7) (A5 (v:=.lit (.bool false)) rfl B6) (A1 A4 A8) (htk _ _ _)
    ·obtain ⟨rfl,rfl,rfl⟩:=q
     refine oB h fun z hz h=>?_
     cases h
     refine s0<|qm rfl<|A0 (Z4 rfl rfl hz) rfl<|G6 (C3j (hN _) rfl rfl rfl hz) rfl<|es .n<|s0<|qm rfl<|es (ra1 rfl)<|C4 ?_
     show C5c _ _ _ _ .ret _ _
     exact D55 trivial (B1 rfl B7) (A5 (v:=.lit (.bool true)) rfl B6) (A1 A4 A8) (htk _ _ _)
theorem C4a:E29 tab 98 [.ptr b1 0] (fun p:IArr 6=>.agg (cA .i64 p)) (fun H=>hcells H b1 = some [.ptr bt 0]∧hcells H bt = some (B2c t m)) (A9p t):= by
 intro σ ρ Hm N hN hpre y hyb hyc body hy a0 o ho c hc
 have e:=hN (.inl a0)
 subst e
 unfold A9p at ho
 refine oB ho fun z hz ho=>?_
 cases ho
 have h1:∀x,hcells (Hm x) b1 = some [.ptr bt 0]:=fun x=>(hpre x).1
 have ht:∀x,hcells (Hm x) bt = some (B2c t m):=fun x=>(hpre x).2
 refine C2a (aq:=[y,.ptr b1 0]) rfl rfl rfl ?_
 have hl:Hm (.inl a0) = Hm (.inl a0)++[]:=(List.append_nil _).symm
 have hl3:∀x p,(Hm x++L0 (Hm (.inl a0)).length b1 y p).length = (Hm (.inl a0)).length + 3:=fun x p=>by rw [List.length_append,hN]; rfl
 have hsc':∀q,Z9 ⟨(Hm (.inl a0)).length,c.cur :: c.outer⟩ (Hm (.inl a0)++L0 (Hm (.inl a0)).length b1 y q) = true:=fun q=>D84 hc (by rw [hl3]; omega) (by rw [hl3]; omega)
 have hcc:=D4h hN h1 ht hy 64 0 (IArr.zero 6) a0 z.1 z.2 hz ⟨(Hm (.inl a0)).length,c.cur :: c.outer⟩ (hsc' _)
 have key:WP tab c98 [(0,y),(1,.ptr b1 0)] (Hm (.inl a0)++[]) ⟨(Hm (.inl a0)).length,c.cur :: c.outer⟩ (C5c (Hm (.inl a0)) (Hm z.2) [] []):= by
  refine sg 0 rfl<|A0 (G0 rfl hyc rfl) rfl<|es (ra2 rfl rfl)<|sg 1 rfl<|A0 E6 rfl<|es (ra3 rfl rfl rfl)<|sg 2 rfl<|A0 E6 rfl<|es (ra4 rfl rfl rfl rfl)<|s0<|A0 (A9a rfl rfl) rfl<|G6 (E2 rfl rfl rfl rfl (U1 ?_) rfl) rfl<|es (ra1 rfl)<|r0<|A0 (B5 rfl rfl rfl) rfl<|A35 (A94 (rs:=[.b z.2.isLeft]) rfl rfl (A2 rfl B4) hcc rfl) rfl<|en .n ?_
  ·exact Nat.le_add_right _ _
  ·show C5c _ _ _ _ .normal _ _
   refine D55 trivial rfl rfl rfl ?_
   have e2:(Hm (.inl a0)).length = (Hm z.2).length:=(hN z.2).symm
   rw [e2]; exact List.take_left
 rw [List.append_nil] at key
 exact key
end
def B9q (l:List Int) (x:Int × Int):Option ((Int × Int) ⊕ Int) :=
 if (decide (x.2 < (l.length:Int))) = true then (idx l x.2).bind fun y=>some (.inl (w64 (x.1 + y),w64 (x.2 + 1)))
 else some (.inr x.1)
def C25 (t:VaTrain) (p:IArr 6) (x:List (List Span) × Int × Int):Option ((List (List Span) × Int × Int) ⊕ (List (List Span) × Int)) :=
 if (decide (x.2.2 < (t.Vans.length:Int))) = true then
  (L3 (van_train.mk t) p x.2.2).bind fun ts =>
  (A0y 3 x.1 x.2.2).bind fun _ =>
  (L4 (van_train.mk t) p x.2.2).bind fun l =>
  (loop (B9q l) (x.2.1,0)).bind fun tw=>some (.inl (x.1.set x.2.2.toNat ts,tw,w64 (x.2.2 + 1)))
 else some (.inr (x.1,x.2.1))
def C26 (t:VaTrain) (p:IArr 6) (ts:List (List Span)) (x:Int × Int × Int):Option ((Int × Int × Int) ⊕ (Int × Int)) :=
 if (decide (x.2.2 < (t.Crates.length:Int))) = true then
  (idx t.Crates x.2.2).bind fun cr =>
  (P7 (van_train.mk t) p x.2.2).bind fun th =>
  (A0y 6 p.l x.2.2).bind fun pi =>
  if (pi == 0) = true then some (.inl (if (th == 1) = true then w64 (x.1 + 1) else x.1,301,w64 (x.2.2 + 1)))
  else (A0y 3 ts (w64 (pi - 1))).bind fun l=>(idx l cr.Stop).bind fun sp=>some (.inl (if (th == 1) = true then w64 (x.1 + 1) else x.1,A5w x.2.1 (w64 (sp.Hi - cr.By)),w64 (x.2.2 + 1)))
 else some (.inr (x.1,x.2.1))
def look0 (t:VaTrain) (p:IArr 6):Option van_found :=
 (loop (C25 t p) ([[],[],[]],0,0)).bind fun a=>(loop (C26 t p a.1) (0,0,0)).bind fun b=>some (van_found.mk b.1 a.2 b.2)
def B8a (t:VaTrain) (ms:List (IArr 6 × van_found)) (p:IArr 6):Option (van_found × List (IArr 6 × van_found)) :=
 match mget ms p with
 | some x=>some (x,ms)
 | none=>(look0 t p).bind fun x=>some (x,mset ms p x)
def B2r (ms:List (IArr 6 × van_found)):AO:=.map (ms.map (mE .i64 G8))
def B1x (l:List Span):AV:=.seq 2 (List.map C6 l)
theorem D92 {t:VaTrain} {ms ms':List (IArr 6 × van_found)} {p:IArr 6} {x:van_found} {H:A6} {bt bm:Nat} (h:B8a t ms p = some (x,ms')) (hb:hcells H bt = some (B2c t (.mp bm))) (hm:hget H bm = some (B2r ms)) {c:Sc} :
  Q9 tab c H (.fn (.func 77) [] []) [.ptr bt 0,.agg (cA .i64 p)] [.agg (G8 x)] (hset H bm (B2r ms')):= by
 unfold B8a at h
 have hbm:bm < H.length:=(List.getElem?_eq_some_iff.1 hm).1
 refine C2a (aq:=[.ptr bt 0,.agg (cA .i64 p)]) rfl rfl rfl ?_
 have key:WP tab c77 [(0,.ptr bt 0),(1,.agg (cA .i64 p))] (H++[]) ⟨H.length,c.cur :: c.outer⟩ (C5c H (hset H bm (B2r ms')) [.cell 4 (some 3)] [.agg (G8 x)]):= by
  refine sg 0 rfl<|A0 (B9t rfl) rfl<|A0 E6 rfl<|es (ra3 rfl rfl rfl)<|B3<|sg 2 rfl<|qm rfl<|A0 (M9 rfl rfl) rfl<|A0 (C3 rfl) rfl<|N8 [2] (W5 [2] rfl I7 rfl rfl) (seen0 rfl) (I0 rfl hb rfl) rfl<|N8 [2] (W5 [2] rfl I7 rfl rfl) (seen0 rfl) (F7 rfl rfl) rfl ?_
  cases hg:mget ms p with
  | some v =>
   rw [hg] at h
   cases h
   refine N8 [2] (W5 [2] rfl I7 rfl rfl) (seen0 rfl) (E0f rfl (by unfold hmap; rw [B9m hm]; rfl) rfl rfl hg) rfl<|qm rfl<|A0 (A7 rfl rfl) rfl<|A0 E6 rfl<|G6 (E2 (ds:=G8 x) rfl rfl rfl rfl (E1 rfl) rfl) rfl<|A0 (A7 rfl rfl) rfl<|qm rfl<|es (ra5 rfl rfl rfl rfl rfl)<|s0<|qm rfl<|es (ra5 rfl rfl rfl rfl rfl)<|N0 rfl rfl<|s0<|A0 (C5 (cs:=G8 x) rfl rfl rfl) rfl<|G6 (E2 (ds:=G8 x) rfl rfl rfl rfl (E1 rfl) rfl) rfl<|es (ra1 rfl)<|C4 ?_
   have hs:hset H bm (B2r ms) = H:= by
    unfold hset
    refine List.ext_getElem? fun i=>?_
    rw [List.getElem?_set]
    split
    ·next e=>subst e; exact hm.symm
    ·rfl
   show C5c _ _ _ _ .ret _ _
   exact D55 trivial (M2 (A08 (ds:=G8 x) rfl rfl rfl rfl) B7) (A5 (B66 rfl) B6) (A1 (A85 rfl) A8) (by rw [hs]; exact List.take_left)
  | none =>
   rw [hg] at h
   refine N8 [2] (W5 [2] rfl I7 rfl rfl) (seen0 rfl) (E0e (g:=G8) rfl (by unfold hmap; rw [B9m hm]; rfl) rfl rfl hg) rfl<|qm rfl<|A0 (A7 rfl rfl) rfl<|A0 E6 rfl<|G6 (E2 (ds:=[.i 0,.i 0,.i 0]) rfl rfl rfl rfl (E1 rfl) rfl) rfl<|A0 (A7 rfl rfl) rfl<|qm rfl<|es (ra5 rfl rfl rfl rfl rfl)<|s0<|qm rfl<|es (ra5 rfl rfl rfl rfl rfl)<|A0c rfl rfl<|C2 ?_
   refine sg 3 rfl<|A0 E6 rfl<|es (ra4 rfl rfl rfl rfl)<|s0<|qm rfl<|A0 (A9a rfl rfl) rfl<|qm rfl<|es (ra5 rfl rfl rfl rfl rfl)<|sg 4 rfl<|A0 E6 rfl<|es (ra6 rfl rfl rfl rfl rfl rfl)<|B3<|s0<|qm rfl<|A0 (M9 rfl rfl) rfl<|A0 (C3 rfl) rfl<|A0 (C3 rfl) rfl<|A0 (I0 rfl hb rfl) rfl<|A0 (D3 (f:=C0) rfl) rfl<|qm rfl<|es (ra8 rfl rfl rfl rfl rfl rfl rfl rfl)<|B9 ?_
   unfold look0 at h
   refine oB h fun x1 h1 h=>oB h1 fun a ha h1=>oB h1 fun b hb2 h1=>?_
   cases h1
   cases h
   have hbt:bt < H.length:=A46 hb
   have bdp:∀{k:Nat},(AV.ptr bt 0).bd (H.length + k) = true:=fun {k}=>Nat.ble_eq_true_of_le (by omega)
   have bdf:∀{k:Nat},(AV.fn (.func 70) [.ptr bt 0] []).bd (H.length + k) = true:=fun {k}=>by simp only [AV.bd,bdL,Bool.and_true]; exact Nat.ble_eq_true_of_le (by omega)
   refine wl (γ:=Unit) (fun y=>[(0,.ptr bt 0),(3,.ptr (H.length + 0) 0),(4,.ptr (H.length + 1) 0),(7,.ptr (H.length + 3) 0),(8,.fn (.func 70) [.ptr bt 0] []),(9,.ptr (H.length + 4) 0),(33,.i (t.Vans.length:Int)),(34,.i y.2.2)])
    (fun _ y=>[.cells (cA .i64 p),.cells [.i 0,.i 0,.i 0],.cells [.i 0,.i 0,.i 0],.cells [.i 0,.i y.2.1,.i 0],.cells (y.1.map B1x)]) 5
    (fun r=>PX 0 [(0,.ptr bt 0),(3,.ptr (H.length + 0) 0),(4,.ptr (H.length + 1) 0),(7,.ptr (H.length + 3) 0),(8,.fn (.func 70) [.ptr bt 0] []),(9,.ptr (H.length + 4) 0)] (H++[.cells (cA .i64 p),.cells [.i 0,.i 0,.i 0],.cells [.i 0,.i 0,.i 0],.cells [.i 0,.i r.2,.i 0],.cells (r.1.map B1x)])) () ha rfl rfl (fun _ _=>rfl) (fun _=>rfl) rfl (fun y=>bdc bdp (bdc (D5 rfl) (bdc (D5 rfl) (bdc (D5 rfl) (bdc bdf (bdc (D5 rfl) (bdc A4 (bdc A4 bdn)))))))) (fun _ y o hy=>?_) fun e s' H' _ hP=>?_
   ·unfold C25 at hy
    refine s0<|A0 (F4 rfl rfl) rfl<|es (ra9 rfl rfl rfl rfl rfl rfl rfl rfl rfl)<|B3<|wi hy rfl (fun hc hy=>?_) fun hc hy=>?_
    ·refine oB hy fun ts hts hy=>oB hy fun z hz hy=>oB hy fun l2 hl2 hy=>oB hy fun tw htw hy=>?_
     refine C2<|B3<|B9<|s0<|qm rfl<|qm rfl<|es (ra9 rfl rfl rfl rfl rfl rfl rfl rfl rfl)<|s0<|qm rfl<|qm rfl<|A0 (F7 rfl rfl) rfl<|qm rfl<|B2 (rs:=[B1x ts]) rfl rfl (A2 rfl (A2 A1b (A2 rfl B4))) ((A29 (T7 hb _) hts).frz)<|A0 (C8x rfl rfl hz) rfl<|G6 (D5o (f:=B1x) rfl rfl rfl hz rfl rfl) rfl<|es (ra9 rfl rfl rfl rfl rfl rfl rfl rfl rfl) ?_
     refine s0<|qm rfl<|A0 (F7 rfl rfl) rfl<|qm rfl<|B2 (rs:=[.seq 1 (List.map cI l2)]) rfl rfl (A2 rfl (A2 A1b (A2 rfl B4))) ((A3a (T7 hb _) hl2).frz)<|A0 (D3 (f:=cI) rfl) rfl<|qm rfl<|es (ra11 rfl rfl rfl rfl rfl rfl rfl rfl rfl rfl rfl)<|B9 ?_
     refine wl (γ:=Unit) (fun z=>[(0,.ptr bt 0),(3,.ptr (H.length + 0) 0),(4,.ptr (H.length + 1) 0),(7,.ptr (H.length + 3) 0),(8,.fn (.func 70) [.ptr bt 0] []),(9,.ptr (H.length + 4) 0),(33,.i (t.Vans.length:Int)),(34,.i y.2.2),(46,.seq 1 (List.map cI l2)),(47,.i (l2.length:Int)),(48,.i z.2)])
      (fun _ z=>[.cells (cA .i64 p),.cells [.i 0,.i 0,.i 0],.cells [.i 0,.i 0,.i 0],.cells [.i 0,.i z.1,.i 0],.cells ((y.1.set y.2.2.toNat ts).map B1x)]) 5
      (fun r=>PX 2 [(0,.ptr bt 0),(3,.ptr (H.length + 0) 0),(4,.ptr (H.length + 1) 0),(7,.ptr (H.length + 3) 0),(8,.fn (.func 70) [.ptr bt 0] []),(9,.ptr (H.length + 4) 0),(33,.i (t.Vans.length:Int)),(34,.i y.2.2)] (H++[.cells (cA .i64 p),.cells [.i 0,.i 0,.i 0],.cells [.i 0,.i 0,.i 0],.cells [.i 0,.i r,.i 0],.cells ((y.1.set y.2.2.toNat ts).map B1x)])) () htw rfl rfl (fun _ _=>rfl) (fun _=>rfl) rfl (fun y=>bdc bdp (bdc (D5 rfl) (bdc (D5 rfl) (bdc (D5 rfl) (bdc bdf (bdc (D5 rfl) (bdc A4 (bdc A4 (bdc D8 (bdc A4 (bdc A4 bdn))))))))))) (fun _ z o hz2=>?_) fun e s' H' _ hP=>?_
     ·unfold B9q at hz2
      refine s0<|A0 (F4 rfl rfl) rfl<|es (ra12 rfl rfl rfl rfl rfl rfl rfl rfl rfl rfl rfl rfl)<|B3<|wi hz2 rfl (fun hc hz2=>?_) fun hc hz2=>?_
      ·refine oB hz2 fun w hw hz2=>?_
       refine C2<|B3<|B9<|s0<|A0 (D4 (f:=cI) rfl rfl hw) rfl<|A0 (D6 (x:=.i w) rfl rfl) rfl<|qm rfl<|es (ra12 rfl rfl rfl rfl rfl rfl rfl rfl rfl rfl rfl rfl)<|r0<|A0 (C3 rfl) rfl<|A0 (B5 rfl rfl rfl) rfl<|qm rfl<|A0 (D7 rfl rfl) rfl<|A0 (C3 rfl) rfl<|G6 (E2 (ds:=[.i 0,.i (w64 (z.1 + w)),.i 0]) rfl rfl rfl rfl (E1 rfl) rfl) rfl<|en (ra11 rfl rfl rfl rfl rfl rfl rfl rfl rfl rfl rfl)<|r0<|A0 (D7 rfl rfl) rfl<|qm rfl<|en (ra11 rfl rfl rfl rfl rfl rfl rfl rfl rfl rfl rfl) ?_
       cases hz2
       exact lnT () rfl (su11 rfl rfl rfl rfl rfl rfl rfl rfl rfl rfl rfl)
      ·refine E3 ?_
       cases hz2
       exact lx rfl px (su8 rfl rfl rfl rfl rfl rfl rfl rfl)
     ·obtain ⟨rfl,rfl,rfl⟩:=hP
      refine r0<|A0 (D7 rfl rfl) rfl<|qm rfl<|en (ra8 rfl rfl rfl rfl rfl rfl rfl rfl) ?_
      cases hy
      exact lnT () rfl (su8 rfl rfl rfl rfl rfl rfl rfl rfl)
    ·refine E3 ?_
     cases hy
     exact lx rfl px (su6 rfl rfl rfl rfl rfl rfl)
   ·obtain ⟨rfl,rfl,rfl⟩:=hP
    refine B3<|s0<|qm rfl<|A0 (M9 rfl rfl) rfl<|A0 (C3 rfl) rfl<|A0 (C3 rfl) rfl<|A0 (I0 rfl hb rfl) rfl<|A0 (D3 (f:=A9) rfl) rfl<|qm rfl<|es (ra9 rfl rfl rfl rfl rfl rfl rfl rfl rfl)<|B9 ?_
    refine wl (γ:=Unit) (fun z=>[(0,.ptr bt 0),(3,.ptr (H.length + 0) 0),(4,.ptr (H.length + 1) 0),(7,.ptr (H.length + 3) 0),(8,.fn (.func 70) [.ptr bt 0] []),(9,.ptr (H.length + 4) 0),(63,.seq 4 (List.map A9 t.Crates)),(64,.i (t.Crates.length:Int)),(65,.i z.2.2)])
     (fun _ z=>[.cells (cA .i64 p),.cells [.i 0,.i 0,.i 0],.cells [.i 0,.i 0,.i 0],.cells [.i z.1,.i a.2,.i z.2.1],.cells (a.1.map B1x)]) 5
     (fun r=>PX 4 [(0,.ptr bt 0),(3,.ptr (H.length + 0) 0),(4,.ptr (H.length + 1) 0),(7,.ptr (H.length + 3) 0),(8,.fn (.func 70) [.ptr bt 0] []),(9,.ptr (H.length + 4) 0)] (H++[.cells (cA .i64 p),.cells [.i 0,.i 0,.i 0],.cells [.i 0,.i 0,.i 0],.cells [.i r.1,.i a.2,.i r.2],.cells (a.1.map B1x)])) () hb2 rfl rfl (fun _ _=>rfl) (fun _=>rfl) rfl (fun y=>bdc bdp (bdc (D5 rfl) (bdc (D5 rfl) (bdc (D5 rfl) (bdc bdf (bdc (D5 rfl) (bdc D8 (bdc A4 (bdc A4 bdn))))))))) (fun _ z o hy=>?_) fun e s' H' _ hP=>?_
    ·unfold C26 at hy
     refine s0<|A0 (F4 rfl rfl) rfl<|es (ra10 rfl rfl rfl rfl rfl rfl rfl rfl rfl rfl)<|B3<|wi hy rfl (fun hc hy=>?_) fun hc hy=>?_
     ·refine oB hy fun cr hcr hy=>oB hy fun th hth hy=>?_
      refine C2<|B3<|B9<|sg 5 rfl<|qm rfl<|A0 (D4 (f:=A9) rfl rfl hcr) rfl<|A0 (K0 (cs:=A9 cr) rfl rfl) rfl<|A0 E6 rfl<|qm rfl<|G6 (E2 (ds:=A9 cr) rfl rfl rfl rfl (E1 rfl) rfl) rfl<|es (ra11 rfl rfl rfl rfl rfl rfl rfl rfl rfl rfl rfl)<|B3<|s0<|qm rfl<|A0 (F7 rfl rfl) rfl<|qm rfl<|B2 (rs:=[.i th]) rfl rfl (A2 A1b (A2 rfl B4)) ((show F2 tab _ _ (.fn (.func 70) [.ptr bt 0] []) [.agg (cA .i64 p),.i z.2.2] [.i th] from C9t (a:=[.ptr bt 0]) (A6m (T7 hb _) hth)).frz)<|A0 (G7 rfl rfl) rfl<|es (ra12 rfl rfl rfl rfl rfl rfl rfl rfl rfl rfl rfl rfl) ?_
      cases h74:(th == 1) with
      | true =>
       simp only [h74,if_true] at hy
       refine N0 rfl rfl<|r0<|A0 (C3 rfl) rfl<|A0 (B5 rfl rfl rfl) rfl<|A0 (D7 rfl rfl) rfl<|A0 (C3 rfl) rfl<|G6 (E2 (ds:=[.i (w64 (z.1 + 1)),.i a.2,.i z.2.1]) rfl rfl rfl rfl (E1 rfl) rfl) rfl<|en (ra11 rfl rfl rfl rfl rfl rfl rfl rfl rfl rfl rfl) ?_
       refine s0<|oB hy fun pi hpi hy=>qm rfl<|A0 (Z4 rfl rfl hpi) rfl<|A0 (A3r rfl rfl hpi) rfl<|A0 (G7 rfl rfl) rfl<|es (ra12 rfl rfl rfl rfl rfl rfl rfl rfl rfl rfl rfl rfl)<|wi hy rfl (fun hc2 hy=>?_) fun hc2 hy=>?_
       ·refine r0<|A0 (C3 rfl) rfl<|G6 (E2 (ds:=[.i (w64 (z.1 + 1)),.i a.2,.i 301]) rfl rfl rfl rfl (E1 rfl) rfl) rfl<|en (ra9 rfl rfl rfl rfl rfl rfl rfl rfl rfl)<|r0<|A0 (D7 rfl rfl) rfl<|qm rfl<|en (ra9 rfl rfl rfl rfl rfl rfl rfl rfl rfl) ?_
        cases hy
        exact lnT () rfl (su9 rfl rfl rfl rfl rfl rfl rfl rfl rfl)
       ·refine oB hy fun l3 hl3 hy=>oB hy fun sp hsp hy=>?_
        refine r0<|A0 (C3 rfl) rfl<|A0 (B5 rfl rfl rfl) rfl<|qm rfl<|A0 (Z4 rfl rfl hpi) rfl<|A0 (A3r rfl rfl hpi) rfl<|A0 (O0 rfl rfl) rfl<|A0 (C8x rfl rfl hl3) rfl<|A0 (D01 (f:=B1x) rfl rfl hl3) rfl<|A0 (C3 rfl) rfl<|A0 (B5 (x:=.i cr.Stop) rfl rfl rfl) rfl<|A0 (D4 (f:=C6) rfl rfl hsp) rfl<|A0 (R6 (ds:=(List.drop 1 (C6 sp))) rfl rfl) rfl<|A0 (D6 (x:=.i sp.Hi) rfl rfl) rfl<|A0 (C3 rfl) rfl<|A0 (B5 (x:=.i cr.By) rfl rfl rfl) rfl<|A0 (O0 rfl rfl) rfl<|A0 (B8g rfl rfl) rfl<|A0 (C3 rfl) rfl<|G6 (E2 (ds:=[.i (w64 (z.1 + 1)),.i a.2,.i (A5w z.2.1 (w64 (sp.Hi - cr.By)))]) rfl rfl rfl rfl (E1 rfl) rfl) rfl<|en (ra9 rfl rfl rfl rfl rfl rfl rfl rfl rfl)<|r0<|A0 (D7 rfl rfl) rfl<|qm rfl<|en (ra9 rfl rfl rfl rfl rfl rfl rfl rfl rfl) ?_
        cases hy
        exact lnT () rfl (su9 rfl rfl rfl rfl rfl rfl rfl rfl rfl)
      | false =>
       simp only [h74,Bool.false_eq_true,if_false] at hy
       refine A0c rfl rfl<|C2 ?_
       refine s0<|oB hy fun pi hpi hy=>qm rfl<|A0 (Z4 rfl rfl hpi) rfl<|A0 (A3r rfl rfl hpi) rfl<|A0 (G7 rfl rfl) rfl<|es (ra12 rfl rfl rfl rfl rfl rfl rfl rfl rfl rfl rfl rfl)<|wi hy rfl (fun hc2 hy=>?_) fun hc2 hy=>?_
       ·refine r0<|A0 (C3 rfl) rfl<|G6 (E2 (ds:=[.i z.1,.i a.2,.i 301]) rfl rfl rfl rfl (E1 rfl) rfl) rfl<|en (ra9 rfl rfl rfl rfl rfl rfl rfl rfl rfl)<|r0<|A0 (D7 rfl rfl) rfl<|qm rfl<|en (ra9 rfl rfl rfl rfl rfl rfl rfl rfl rfl) ?_
        cases hy
        exact lnT () rfl (su9 rfl rfl rfl rfl rfl rfl rfl rfl rfl)
       ·refine oB hy fun l3 hl3 hy=>oB hy fun sp hsp hy=>?_
        refine r0<|A0 (C3 rfl) rfl<|A0 (B5 rfl rfl rfl) rfl<|qm rfl<|A0 (Z4 rfl rfl hpi) rfl<|A0 (A3r rfl rfl hpi) rfl<|A0 (O0 rfl rfl) rfl<|A0 (C8x rfl rfl hl3) rfl<|A0 (D01 (f:=B1x) rfl rfl hl3) rfl<|A0 (C3 rfl) rfl<|A0 (B5 (x:=.i cr.Stop) rfl rfl rfl) rfl<|A0 (D4 (f:=C6) rfl rfl hsp) rfl<|A0 (R6 (ds:=(List.drop 1 (C6 sp))) rfl rfl) rfl<|A0 (D6 (x:=.i sp.Hi) rfl rfl) rfl<|A0 (C3 rfl) rfl<|A0 (B5 (x:=.i cr.By) rfl rfl rfl) rfl<|A0 (O0 rfl rfl) rfl<|A0 (B8g rfl rfl) rfl<|A0 (C3 rfl) rfl<|G6 (E2 (ds:=[.i z.1,.i a.2,.i (A5w z.2.1 (w64 (sp.Hi - cr.By)))]) rfl rfl rfl rfl (E1 rfl) rfl) rfl<|en (ra9 rfl rfl rfl rfl rfl rfl rfl rfl rfl)<|r0<|A0 (D7 rfl rfl) rfl<|qm rfl<|en (ra9 rfl rfl rfl rfl rfl rfl rfl rfl rfl) ?_
        cases hy
        exact lnT () rfl (su9 rfl rfl rfl rfl rfl rfl rfl rfl rfl)
     ·refine E3 ?_
      cases hy
      exact lx rfl px (su6 rfl rfl rfl rfl rfl rfl)
    ·obtain ⟨rfl,rfl,rfl⟩:=hP
     have hb7:hcells H bt = some (B2c t (.mp bm)):=hb
     refine s0<|qm rfl<|A0 (M9 rfl rfl) rfl<|A0 (C3 rfl) rfl<|A0 (I0 rfl hb7 rfl) rfl<|A0 (F7 rfl rfl) rfl<|A0 (C5 (cs:=G8 ⟨b.1,a.2,b.2⟩) rfl rfl rfl) rfl<|G6 (E19 (g:=G8) (v:=⟨b.1,a.2,b.2⟩) rfl (by unfold B77; rw [B9m hm]; rfl) rfl rfl rfl rfl) rfl<|es (ra2 rfl rfl) ?_
     rw [B9n hbm]
     refine s0<|A0 (D0z (J7 _ _ _) rfl rfl rfl) rfl<|G6 (D74 (ds:=G8 ⟨b.1,a.2,b.2⟩) (J7 _ _ _) rfl rfl rfl rfl rfl rfl) rfl<|es (ra1 rfl)<|C4 ?_
     show C5c _ _ _ _ .ret _ _
     exact D55 trivial (M2 (D0z (J7 _ _ _) rfl rfl rfl) B7) (A5 (B66 rfl) B6) (A1 (A85 rfl) A8) (by rw [← J7 H bm (B2r (mset ms p ⟨b.1,a.2,b.2⟩))]; exact List.take_left)
 rw [List.append_nil] at key
 exact key
theorem C28 {t:VaTrain} {ms:List (IArr 6 × van_found)} {p:IArr 6} {r:van_found × List (IArr 6 × van_found)} {H:A6} {l:List AO} {jt jm:Nat} (h:B8a t ms p = some r) (hb:l[jt]? = some (.cells (B2c t (.mp (H.length + jm))))) (hm:l[jm]? = some (B2r ms)) {c:Sc} :
  Q9 tab c (H++l) (.fn (.func 77) [] []) [.ptr (H.length + jt) 0,.agg (cA .i64 p)] [.agg (G8 r.1)] (H++l.set jm (B2r r.2)):= by
 have:=D92 (x:=r.1) (ms':=r.2) h (F3 hb) (bm:=H.length + jm) (by rw [A17]; exact hm) (c:=c)
 rwa [I6] at this
theorem D7x {t:VaTrain} {ms:List (IArr 6 × van_found)} {p:IArr 6} {r:van_found × List (IArr 6 × van_found)} {H:A6} {l:List AO} {jt jm N:Nat} (hN:H.length = N) (h:B8a t ms p = some r) (hb:l[jt]? = some (.cells (B2c t (.mp (N + jm))))) (hm:l[jm]? = some (B2r ms)) {c:Sc} :
  Q9 tab c (H++l) (.fn (.func 77) [] []) [.ptr (N + jt) 0,.agg (cA .i64 p)] [.agg (G8 r.1)] (H++l.set jm (B2r r.2)):= by
 subst hN
 exact C28 h hb hm
end Vn
end
section
set_option maxRecDepth 100000
set_option maxHeartbeats 0
namespace Vn
open Go Am Go.Proofs.Ytjjmechghfjbmaa.Cd
theorem A65 {n:Nat} {kk:IntKind} (a:IArr n):freeL (cA kk a) = true:= by
 unfold cA
 induction a.l with
 | nil=>rfl
 | cons x l ih=>simp only [List.map_cons,freeL,AV.free,ih,Bool.and_self]
theorem A41 {N:Nat} (ms:List (IArr 6 × van_found)):(B2r ms).cl N = true:= by
 simp [B2r,AO.cl,clM,mE,AV.cl,B1f,G8,clL]
theorem O7 (x:Span):freeL (C6 x) = true:= by simp [C6,freeL,AV.free,I9,freeR,cI,cB,cS,X5]
theorem M4 (x:VaVan):freeL (C0 x) = true:= by simp [C0,freeL,AV.free,I9,freeR,cI,cB,cS,X5,O7]
theorem J0 (x:VaCrate):freeL (A9 x) = true:= by simp [A9,freeL,AV.free,I9,freeR,cI,cB,cS,X5,O7,M4]
theorem L2 (x:VaPair):freeL (C1 x) = true:= by simp [C1,freeL,AV.free,I9,freeR,cI,cB,cS,X5,O7,M4,J0]
theorem J5 (x:VaTrain):freeL (A3 x) = true:= by simp [A3,freeL,AV.free,I9,freeR,cI,cB,cS,X5,O7,M4,J0,L2]
theorem G9 (x:law06_Asked):freeL (A0d x) = true:= by simp [A0d,freeL,AV.free,I9,freeR,cI,cB,cS,X5,O7,M4,J0,L2,J5]
theorem I4 (x:van_found):freeL (G8 x) = true:= by simp [G8,freeL,AV.free,I9,freeR,cI,cB,cS,X5,O7,M4,J0,L2,J5,G9]
theorem A40 {N:Nat} (x:Span):clL N (C6 x) = true:=clL_free _ (O7 x)
theorem A14 {N:Nat} (x:VaVan):clL N (C0 x) = true:=clL_free _ (M4 x)
theorem U9 {N:Nat} (x:VaCrate):clL N (A9 x) = true:=clL_free _ (J0 x)
theorem A0j {N:Nat} (x:VaPair):clL N (C1 x) = true:=clL_free _ (L2 x)
theorem V0 {N:Nat} (x:VaTrain):clL N (A3 x) = true:=clL_free _ (J5 x)
theorem M3 {N:Nat} (x:law06_Asked):clL N (A0d x) = true:=clL_free _ (G9 x)
theorem P8 {N:Nat} (x:van_found):clL N (G8 x) = true:=clL_free _ (I4 x)
def A61 (a0:VaTrain) (x4:(IArr 6)) (s5:((List (IArr 6 × van_found)) × (IArr 6) × van_found)):Option (((List (IArr 6 × van_found)) × (IArr 6) × van_found) ⊕ Unit) :=
 (B8a (van_train.mk a0).VaTrain s5.1 x4).bind fun x6 =>
 (B0f [(w64 (s5.2.2.sure_ - x6.1.sure_)),(w64 (x6.1.twice_ - s5.2.2.twice_))]).bind fun x7 =>
 if (decide (x7 < 0)) = true then
  some (.inl (x6.2,x4,x6.1))
 else
  some (.inl (x6.2,s5.2.1,s5.2.2))
def A62 (vo9_10:((List (IArr 6 × van_found)) × (IArr 6) × van_found)) (x12:(List Int)) (s13:(Int × (List Int))):Option ((Int × (List Int)) ⊕ (List Int)) :=
 if (decide (s13.1 < (List.length (cpy x12 (IArr.l vo9_10.2.1)):Int))) = true then
  (idx s13.2 s13.1).bind fun x16 =>
  (idx s13.2 s13.1).bind fun x17 =>
  some (.inl ((w64 (s13.1 + 1)),(A1w s13.2 s13.1 (w64 (x16 - 1)))))
 else
  some (.inr s13.2)
def X2 (a0:VaTrain):Option ((List Int) × Int × Int × Int) :=
 (V8 a0).bind fun x1 =>
 if (x1.2.2 != 0) = true then
  some (([]:List Int),0,0,x1.2.2)
 else
  (A9p (van_train.mk a0).VaTrain ((List (IArr 6 × van_found)) × (IArr 6) × van_found) Unit (A61 a0) (([]:(List (IArr 6 × van_found))),(IArr.zero 6),(van_found.mk (-1) 0 0))).bind fun (o9:(((List (IArr 6 × van_found)) × (IArr 6) × van_found) ⊕ Unit)) =>
  match o9 with
  | (.inl vo9_10) =>
  (B8e 8 (List.length a0.Crates:Int) 0).bind fun x12 =>
  (loop (A62 vo9_10 x12) (0,(cpy x12 (IArr.l vo9_10.2.1)))).bind fun (o18:(List Int)) =>
  some (o18,vo9_10.2.2.sure_,vo9_10.2.2.twice_,0)
  | (.inr _)=>none
theorem C8z {c:Sc} {H:A6} (hscv:Z9 c H = true) (hcl:clH H.length H = true) {a0:VaTrain} {r:((List Int) × Int × Int × Int)} (h:X2 a0 = some r) :
  F2 tab c H (.fn (.func 29) [] []) [(.agg (A3 a0))] [(.fresh 1 (List.map cI r.1)),.i r.2.1,.i r.2.2.1,.i r.2.2.2]:= by
 unfold X2 at h
 refine cE rfl rfl<|sg 0 rfl<|A0 (G0 (cs:=A3 a0) rfl rfl rfl) rfl<|A0 A5y rfl<|qm rfl<|qm rfl<|qm rfl<|es (ra1 rfl)<|sg 2 rfl<|A0 (C5 rfl rfl rfl) rfl<|V4 (as2:=[(.agg (A3 a0))]) (H1:=(H++[(.cells (A3 a0)),(.arr 1 false (List.map cI ([]:List Int))),.dead])) rfl rfl (A2 (D2 rfl) B4) rfl rfl rfl (A26 rfl)<|sg 3 rfl<|A0 (G0 (cs:=A3 a0) rfl rfl rfl) rfl<|qm rfl<|qm rfl<|es (ra1 rfl)<|B3<|s0<|oB h fun x1 hx1 h=>A0 (C5 rfl rfl rfl) rfl<|B2 (rs:=[.i x1.1,.i x1.2.1,.i x1.2.2]) rfl rfl (A2 (D2 rfl) B4) ((Z5 hx1).frz)<|qm rfl<|A0 (A7 rfl rfl) rfl<|A0 (A7 rfl rfl) rfl<|A0 (A7 rfl rfl) rfl<|qm rfl<|qm rfl<|qm rfl<|es (ra2 rfl rfl)<|s0<|qm rfl<|A0 (F8 rfl rfl) rfl<|es (ra3 rfl rfl rfl)<|wi h rfl (fun hc2 h=>?_) fun hc2 h=>?_
 ·refine s0<|qm rfl<|qm rfl<|qm rfl<|es (ra2 rfl rfl)<|C4<|InlQ.mk trivial ⟨_,_,_,[(.lit (.pointer none)),.i x1.2.2],_,(B1 rfl (B1 rfl B7)),(A5 rfl (A5 rfl B6)),(Z1 (A1 A4 (A1 A4 A8)) (D9 rfl (D9 rfl M5)) (K7 _ _ _)),?_⟩
  refine qm rfl<|A0 (A7 rfl rfl) rfl<|A0 (A7 rfl rfl) rfl<|A0 E6 rfl<|G6 (E2 (ds:=[(.lit (.pointer none))]) rfl rfl rfl rfl (E1 rfl) rfl) rfl<|qm rfl<|es (ra3 rfl rfl rfl)<|B3<|s0<|qm rfl<|A0 (F8 rfl rfl) rfl<|es (ra4 rfl rfl rfl rfl)<|N0 rfl hc2<|sg 3 rfl<|qm rfl<|A0 A5y rfl<|qm rfl<|qm rfl<|qm rfl<|es (ra4 rfl rfl rfl rfl)<|C4 ?_
  obtain rfl:=os h
  exact retq trivial (B1 rfl (B1 rfl (B1 rfl (B1 rfl B7)))) (A5 (A6n rfl (List.length_map _)) (A5 rfl (A5 rfl (A5 rfl B6)))) (A1 A0v (A1 A4 (A1 A4 (A1 A4 A8))))
 ·refine C2<|sg 4 rfl<|A0 (C5 rfl rfl rfl) rfl<|A0 A9k rfl<|A0 (N7 (cs:=[(.seq 4 (List.map C0 a0.Vans)),.i a0.Stops,.i a0.Handle,(.seq 4 (List.map A9 a0.Crates)),(.seq 2 (List.map C1 a0.Apart)),(.mp (H.length + 4))]) rfl rfl) rfl<|A0 (G0 (cs:=[(.seq 4 (List.map C0 a0.Vans)),.i a0.Stops,.i a0.Handle,(.seq 4 (List.map A9 a0.Crates)),(.seq 2 (List.map C1 a0.Apart)),(.mp (H.length + 4))]) rfl rfl rfl) rfl<|qm rfl<|qm rfl<|es (ra2 rfl rfl)<|C4<|InlQ.mk trivial ⟨_,_,_,[(.ptr (H.length + 5) 0),.i 0],_,(B1 rfl (B1 rfl B7)),(A5 rfl (A5 rfl B6)),(A24 (U4 (A2z rfl)) (D9 rfl (D9 rfl M5))),?_⟩
  refine qm rfl<|A0 (A7 rfl rfl) rfl<|A0 (A7 rfl rfl) rfl<|A0 E6 rfl<|G6 (E2 (ds:=[(.ptr (H.length + 5) 0)]) rfl rfl rfl rfl (U1 (Nat.le_add_right _ _)) rfl) rfl<|qm rfl<|es (ra3 rfl rfl rfl)<|B3<|s0<|qm rfl<|A0 (J9 (v:=(.b false)) rfl rfl rfl) rfl<|es (ra4 rfl rfl rfl rfl)<|A0c rfl rfl<|C2<|sg 6 rfl<|A0 (E6 (zs:=(cA .i64) (IArr.zero 6))) rfl<|es (ra3 rfl rfl rfl)<|sg 7 rfl<|A0 (N7 (cs:=G8 (van_found.mk (-1) 0 0)) rfl rfl) rfl<|A0 E6 rfl<|G6 (E2 (ds:=(G8 (van_found.mk (-1) 0 0))) rfl rfl rfl rfl (E1 rfl) rfl) rfl<|es (ra4 rfl rfl rfl rfl)<|B3<|s0<|A0 (B5 (x:=(.ptr (H.length + 5) 0)) rfl rfl rfl) rfl<|V4 (as2:=[(.ptr (H.length + 5) 0)]) (H1:=(H++[(.cells (A3 a0)),(.arr 1 false (List.map cI ([]:List Int))),(.cells [(.ptr (H.length + 5) 0)]),(.cells (A3 a0)),(.map []),(.cells [(.seq 4 (List.map C0 a0.Vans)),.i a0.Stops,.i a0.Handle,(.seq 4 (List.map A9 a0.Crates)),(.seq 2 (List.map C1 a0.Apart)),(.mp (H.length + 4))]),(.cells ((cA .i64) (IArr.zero 6))),(.cells (G8 (van_found.mk (-1) 0 0)))])) rfl rfl (A2 rfl B4) rfl rfl rfl (A26 rfl)<|sg 8 rfl<|A0 (G0 (cs:=[(.ptr (H.length + 5) 0)]) rfl rfl rfl) rfl<|qm rfl<|es (ra1 rfl)<|s0<|A0 (A9a rfl rfl) rfl<|qm rfl<|es (ra1 rfl)<|C4<|InlQ.mk trivial ⟨_,_,_,[(.fn (.func 98) [] [(.ptr (H.length + 8) 0)])],_,(B1 rfl B7),(A5 rfl B6),(A24 (U4 (D17 (U4 (A2z rfl)))) (D9 rfl M5)),?_⟩
  refine es (ra5 rfl rfl rfl rfl rfl)<|B9<|oB h fun o9 ho9 h=>C9a (σ:=((List (IArr 6 × van_found)) × (IArr 6) × van_found)) (ρ:=Unit) (k:=9) (ea:=(fun (x4:(IArr 6))=>(.agg ((cA .i64) x4)))) (body:=(A61 a0)) (pre:=fun H1=>hcells H1 (H.length + 8) = some [.ptr (H.length + 5) 0]∧hcells H1 (H.length + 5) = some (B2c (van_train.mk a0).VaTrain (.mp (H.length + 4)))) (C4a (t:=(van_train.mk a0).VaTrain) (b1:=H.length + 8) (bt:=H.length + 5) (m:=(.mp (H.length + 4)))) B5q [(6,(.ptr (H.length + 2) 0)),(7,(.ptr (H.length + 6) 0)),(8,(.ptr (H.length + 7) 0))] (fun s5=>[(.cells (A3 a0)),(.arr 1 false (List.map cI ([]:List Int))),(.cells [(.ptr (H.length + 5) 0)]),(.cells (A3 a0)),(B2r s5.1),(.cells [(.seq 4 (List.map C0 a0.Vans)),.i a0.Stops,.i a0.Handle,(.seq 4 (List.map A9 a0.Crates)),(.seq 2 (List.map C1 a0.Apart)),(.mp (H.length + 4))]),(.cells ((cA .i64) s5.2.1)),(.cells (G8 s5.2.2)),(.cells [(.ptr (H.length + 5) 0)])]) (fun (_:Unit)=>[(.cells (A3 a0)),(.arr 1 false (List.map cI ([]:List Int))),(.cells [(.ptr (H.length + 5) 0)]),(.cells (A3 a0)),(.map []),(.cells [(.seq 4 (List.map C0 a0.Vans)),.i a0.Stops,.i a0.Handle,(.seq 4 (List.map A9 a0.Crates)),(.seq 2 (List.map C1 a0.Apart)),(.mp (H.length + 4))]),(.cells ((cA .i64) (IArr.zero 6))),(.cells (G8 (van_found.mk (-1) 0 0))),(.cells [(.ptr (H.length + 5) 0)])]) (fun _=>.ret) ho9 (fun _=>rfl) rfl (fun S hS=>T5 (live:=[6,7,8]) rfl (by decide) (Sub.trans (su3 rfl rfl rfl) hS)) rfl (fun _=>rfl) (fun _=>rfl) hcl (by rw [Bool.and_eq_true,Bool.and_eq_true]; exact ⟨⟨by kernel_rfl,by kernel_rfl⟩,(by simp [clH,clS,AO.cl,AV.cl,clL,clM,clR,A4z,B1f,A65,A41,cI,cB,cS,I9,freeL,AV.free,freeR,Nat.blt,O7,A40,M4,A14,J0,U9,L2,A0j,J5,V0,G9,M3,I4,P8] <;> omega)⟩) (fun _=>(by simp [clH,clS,AO.cl,AV.cl,clL,clM,clR,A4z,B1f,A65,A41,cI,cB,cS,I9,freeL,AV.free,freeR,Nat.blt,O7,A40,M4,A14,J0,U9,L2,A0j,J5,V0,G9,M3,I4,P8] <;> omega)) (fun _=>(by simp [clH,clS,AO.cl,AV.cl,clL,clM,clR,A4z,B1f,A65,A41,cI,cB,cS,I9,freeL,AV.free,freeR,Nat.blt,O7,A40,M4,A14,J0,U9,L2,A0j,J5,V0,G9,M3,I4,P8] <;> omega)) (fun _=>(by simp [clH,clS,AO.cl,AV.cl,clL,clM,clR,A4z,B1f,A65,A41,cI,cB,cS,I9,freeL,AV.free,freeR,Nat.blt,O7,A40,M4,A14,J0,U9,L2,A0j,J5,V0,G9,M3,I4,P8] <;> omega)) ⟨fun _ _=>(And.intro (F3 rfl) (F3 rfl)),fun _ _=>(And.intro (F3 rfl) (F3 rfl))⟩ (A1c hscv) (fun c x4 s5 o hs5=>?_) ?_
  ·unfold A61 at hs5
   refine rg 10 rfl<|A0 (E6 (zs:=(cA .i64) (IArr.zero 6))) rfl<|G6 (H9 (kk:=.i64) (u:=(IArr.zero 6)) (v:=x4) rfl rfl rfl) rfl<|en (ra4 rfl rfl rfl rfl)<|⟨_,rfl,rfl,rfl,?_⟩
   refine B9<|sg 11 rfl<|oB hs5 fun x6 hx6 hs5=>A0 (B5 (x:=(.ptr (H.length + 5) 0)) rfl rfl rfl) rfl<|A0 (F7 (kk:=.i64) (v:=x4) rfl rfl) rfl<|A35 (A94 (rs:=[(.agg (G8 x6.1))]) rfl rfl (A2 rfl (A2 A1b B4)) (C28 (ms:=s5.1) (jt:=5) (jm:=4) hx6 rfl rfl) rfl) rfl<|A0 E6 rfl<|G6 (E2 (ds:=(G8 x6.1)) rfl rfl rfl rfl (E1 rfl) rfl) rfl<|es (ra4 rfl rfl rfl rfl)<|s0<|oB hs5 fun x7 hx7 hs5=>A0 (C3 rfl) rfl<|A0 (B5 rfl rfl rfl) rfl<|A0 (C3 rfl) rfl<|A0 (B5 rfl rfl rfl) rfl<|A0 (O0 rfl rfl) rfl<|A0 (C3 rfl) rfl<|A0 (B5 rfl rfl rfl) rfl<|A0 (C3 rfl) rfl<|A0 (B5 rfl rfl rfl) rfl<|A0 (O0 rfl rfl) rfl<|A0 (I8 (rows:=List.map cI [(w64 (s5.2.2.sure_ - x6.1.sure_)),(w64 (x6.1.twice_ - s5.2.2.twice_))]) rfl rfl (E4 (fun _=>rfl) _)) rfl<|B2 (rs:=[.i x7]) rfl rfl (A2 rfl B4) ((C5p hx7).frz)<|A0 (F4 rfl rfl) rfl<|es (ra5 rfl rfl rfl rfl rfl)<|wi hs5 rfl (fun hc8 hs5=>?_) fun hc8 hs5=>?_
   ·refine r0<|A0 (F7 (kk:=.i64) (v:=x4) rfl rfl) rfl<|C1w [11] [(.cells (A3 a0)),(.arr 1 false (List.map cI ([]:List Int))),(.cells [(.ptr (H.length + 5) 0)]),(.cells (A3 a0)),(B2r x6.2),(.cells [(.seq 4 (List.map C0 a0.Vans)),.i a0.Stops,.i a0.Handle,(.seq 4 (List.map A9 a0.Crates)),(.seq 2 (List.map C1 a0.Apart)),(.mp (H.length + 4))]),(.cells ((cA .i64) x4)),(.cells (G8 s5.2.2)),(.cells [(.ptr (H.length + 5) 0)]),_,(.cells ((cA .i64) x4)),(.cells (G8 x6.1))] (W5 [] rfl (B0a rfl A73 I7) rfl rfl) (seen0 rfl) (H9 (kk:=.i64) (u:=s5.2.1) (v:=x4) rfl rfl rfl) rfl rfl rfl<|N8 [] (W5 [] rfl I7 rfl rfl) (B8y (b:=H.length + 11) rfl (A98 (A64 _ rfl) B5c)) (C5 rfl rfl rfl) rfl<|G6 (E2 (ds:=(G8 x6.1)) rfl rfl rfl rfl (E1 rfl) rfl) rfl<|en .n ?_
    cases hs5
    exact ⟨_,rfl,rfl,rfl⟩
   ·refine C2 ?_
    cases hs5
    exact ⟨_,rfl,rfl,rfl⟩
  ·rcases o9 with vo9_10 | vo9_11
   ·refine sg 10 rfl<|oB h fun x12 hx12 h=>A0 (C3 rfl) rfl<|A0 (B5 rfl rfl rfl) rfl<|A0 (D3 (f:=A9) rfl) rfl<|A0 (C7e (f:=cI) rfl rfl rfl hx12) rfl<|qm rfl<|es (ra3 rfl rfl rfl)<|s0<|qm rfl<|A0 (D5m (v:=vo9_10.2.1) rfl rfl) rfl<|A35 (E0d (f:=cI) rfl rfl rfl rfl (E2q rfl) (fun _=>rfl)) rfl ?_
    rw [show List.length x12 = List.length (cpy x12 (IArr.l vo9_10.2.1)) from (B6m _ _).symm]
    refine es (ra2 rfl rfl)<|B3<|s0<|qm rfl<|A0 (B6y (f:=cI) rfl rfl rfl) rfl<|qm rfl<|es (ra4 rfl rfl rfl rfl)<|B9<|oB h fun o18 ho18 h=>wl (fun s13=>[(2,(.asl (H.length + 10) (List.length s13.2))),(8,(.ptr (H.length + 7) 0)),(50,(.i (List.length (cpy x12 (IArr.l vo9_10.2.1)):Int))),(51,.i s13.1)]) (fun (q14:Unit) s13=>[(.cells (A3 a0)),(.arr 1 false (List.map cI ([]:List Int))),(.cells [(.ptr (H.length + 5) 0)]),(.cells (A3 a0)),(B2r vo9_10.1),(.cells [(.seq 4 (List.map C0 a0.Vans)),.i a0.Stops,.i a0.Handle,(.seq 4 (List.map A9 a0.Crates)),(.seq 2 (List.map C1 a0.Apart)),(.mp (H.length + 4))]),(.cells ((cA .i64) vo9_10.2.1)),(.cells (G8 vo9_10.2.2)),(.cells [(.ptr (H.length + 5) 0)]),.dead,(.arr 1 false (List.map cI s13.2))]) 11 (fun r e s' H'=>PX 2 [(2,(.asl (H.length + 10) (List.length r))),(8,(.ptr (H.length + 7) 0))] (H++[(.cells (A3 a0)),(.arr 1 false (List.map cI ([]:List Int))),(.cells [(.ptr (H.length + 5) 0)]),(.cells (A3 a0)),(B2r vo9_10.1),(.cells [(.seq 4 (List.map C0 a0.Vans)),.i a0.Stops,.i a0.Handle,(.seq 4 (List.map A9 a0.Crates)),(.seq 2 (List.map C1 a0.Apart)),(.mp (H.length + 4))]),(.cells ((cA .i64) vo9_10.2.1)),(.cells (G8 vo9_10.2.2)),(.cells [(.ptr (H.length + 5) 0)]),.dead,(.arr 1 false (List.map cI r))]) e s' H') () ho18 rfl rfl (fun _ _=>rfl) (fun _=>rfl) rfl (fun s13=>(bdc (U8 rfl) (bdc (D5 rfl) (bdc A4 (bdc A4 bdn))))) (fun q14 s13 ys13 hs13=>?_) ?_
    ·unfold A62 at hs13
     refine s0<|A0 (F4 rfl rfl) rfl<|es (ra5 rfl rfl rfl rfl rfl)<|B3<|wi hs13 rfl (fun hc15 hs13=>?_) fun hc15 hs13=>?_
     ·refine C2<|B3<|B9<|s0<|qm rfl<|qm rfl<|es (ra5 rfl rfl rfl rfl rfl)<|r0<|oB hs13 fun x16 hx16 hs13=>oB hs13 fun x17 hx17 hs13=>qm rfl<|qm rfl<|A0 (V3 (f:=cI) rfl rfl rfl rfl hx16) rfl<|A0 (A38 (x:=(.i x16)) rfl rfl (List.length_map _) (V6 hx16) rfl) rfl<|A0 (O0 rfl rfl) rfl<|A0 (V3 (f:=cI) rfl rfl rfl rfl hx17) rfl<|G6 (A4i (ds:=cI (w64 (x16 - 1))) rfl rfl rfl rfl rfl (List.length_map _) (V6 hx17) rfl rfl) rfl ?_
      rw [A3q]
      rw [show List.length s13.2 = List.length (A1w s13.2 s13.1 (w64 (x16 - 1))) from (T8 _ _ _).symm]
      refine en (ra4 rfl rfl rfl rfl)<|r0<|A0 (D7 rfl rfl) rfl<|qm rfl<|en (ra4 rfl rfl rfl rfl) ?_
      cases hs13
      exact lnT () rfl (su4 rfl rfl rfl rfl)
     ·refine E3 ?_
      obtain rfl:=os hs13
      exact lx rfl px (su2 rfl rfl)
    ·rintro e s' H' - ⟨rfl,rfl,rfl⟩
     refine s0<|qm rfl<|A0 (C3 rfl) rfl<|A0 (B5 rfl rfl rfl) rfl<|A0 (C3 rfl) rfl<|A0 (B5 rfl rfl rfl) rfl<|qm rfl<|qm rfl<|qm rfl<|qm rfl<|es (ra4 rfl rfl rfl rfl)<|C4 ?_
     obtain rfl:=os h
     exact retq trivial (B1 rfl (B1 rfl (B1 rfl (B1 rfl B7)))) (A5 (A6n rfl (List.length_map _)) (A5 rfl (A5 rfl (A5 rfl B6)))) (A1 A0v (A1 A4 (A1 A4 (A1 A4 A8))))
   ·cases h
theorem A0e {c:Sc} {H:A6} (hscv:Z9 c H = true) {a0:VaTrain} {r:((List Int) × Int × Int × Int)} (h:X2 a0 = some r) :
  F2 tab c H (.fn (.func 29) [] []) [(.agg (A3 a0))] [(.fresh 1 (List.map cI r.1)),.i r.2.1,.i r.2.2.1,.i r.2.2.2]:=B4n B5q (C8z (c:=⟨0,[]⟩) (H:=[]) rfl rfl h) (by simp [freeL,AV.free,I9,cI,cB,cS,A65,O7,M4,J0,L2,J5,G9,I4]) (by simp [freeL,AV.free,I9,cI,cB,cS,A65,O7,M4,J0,L2,J5,G9,I4]) hscv
def A4u (a0:VaTrain) (x4:(IArr 6)) (s5:((List (IArr 6 × van_found)) × Int)):Option (((List (IArr 6 × van_found)) × Int) ⊕ Unit) :=
 (B8a (van_train.mk a0).VaTrain s5.1 x4).bind fun x6 =>
 some (.inl (x6.2,(A89 s5.2 x6.1.lacks_)))
def A2y (a0:VaTrain):Option (Int × Int) :=
 (V8 a0).bind fun x1 =>
 if (x1.2.2 != 0) = true then
  some (0,x1.2.2)
 else
  (A9p (van_train.mk a0).VaTrain ((List (IArr 6 × van_found)) × Int) Unit (A4u a0) (([]:(List (IArr 6 × van_found))),301)).bind fun (o7:(((List (IArr 6 × van_found)) × Int) ⊕ Unit)) =>
  match o7 with
  | (.inl vo7_8) =>
  if (decide (vo7_8.2 > 300)) = true then
   some (0,9)
  else
   some (vo7_8.2,0)
  | (.inr _)=>none
theorem C1d {c:Sc} {H:A6} (hscv:Z9 c H = true) (hcl:clH H.length H = true) {a0:VaTrain} {r:(Int × Int)} (h:A2y a0 = some r) :
  F2 tab c H (.fn (.func 35) [] []) [(.agg (A3 a0))] [.i r.1,.i r.2]:= by
 unfold A2y at h
 refine cE rfl rfl<|sg 0 rfl<|A0 (G0 (cs:=A3 a0) rfl rfl rfl) rfl<|qm rfl<|qm rfl<|es (ra1 rfl)<|sg 1 rfl<|A0 (C5 rfl rfl rfl) rfl<|V4 (as2:=[(.agg (A3 a0))]) (H1:=(H++[(.cells (A3 a0)),.dead])) rfl rfl (A2 (D2 rfl) B4) rfl rfl rfl (A26 rfl)<|sg 2 rfl<|A0 (G0 (cs:=A3 a0) rfl rfl rfl) rfl<|qm rfl<|qm rfl<|es (ra1 rfl)<|B3<|s0<|oB h fun x1 hx1 h=>A0 (C5 rfl rfl rfl) rfl<|B2 (rs:=[.i x1.1,.i x1.2.1,.i x1.2.2]) rfl rfl (A2 (D2 rfl) B4) ((Z5 hx1).frz)<|qm rfl<|A0 (A7 rfl rfl) rfl<|A0 (A7 rfl rfl) rfl<|A0 (A7 rfl rfl) rfl<|qm rfl<|qm rfl<|qm rfl<|es (ra2 rfl rfl)<|s0<|qm rfl<|A0 (F8 rfl rfl) rfl<|es (ra3 rfl rfl rfl)<|wi h rfl (fun hc2 h=>?_) fun hc2 h=>?_
 ·refine s0<|qm rfl<|qm rfl<|qm rfl<|es (ra2 rfl rfl)<|C4<|InlQ.mk trivial ⟨_,_,_,[(.lit (.pointer none)),.i x1.2.2],_,(B1 rfl (B1 rfl B7)),(A5 rfl (A5 rfl B6)),(Z1 (A1 A4 (A1 A4 A8)) (D9 rfl (D9 rfl M5)) (K7 _ _ _)),?_⟩
  refine qm rfl<|A0 (A7 rfl rfl) rfl<|A0 (A7 rfl rfl) rfl<|A0 E6 rfl<|G6 (E2 (ds:=[(.lit (.pointer none))]) rfl rfl rfl rfl (E1 rfl) rfl) rfl<|qm rfl<|es (ra2 rfl rfl)<|B3<|s0<|qm rfl<|A0 (F8 rfl rfl) rfl<|es (ra3 rfl rfl rfl)<|N0 rfl hc2<|s0<|qm rfl<|qm rfl<|qm rfl<|es (ra2 rfl rfl)<|C4 ?_
  obtain rfl:=os h
  exact retq trivial (B1 rfl (B1 rfl B7)) (A5 rfl (A5 rfl B6)) (A1 A4 (A1 A4 A8))
 ·refine C2<|sg 3 rfl<|A0 (C5 rfl rfl rfl) rfl<|A0 A9k rfl<|A0 (N7 (cs:=[(.seq 4 (List.map C0 a0.Vans)),.i a0.Stops,.i a0.Handle,(.seq 4 (List.map A9 a0.Crates)),(.seq 2 (List.map C1 a0.Apart)),(.mp (H.length + 3))]) rfl rfl) rfl<|A0 (G0 (cs:=[(.seq 4 (List.map C0 a0.Vans)),.i a0.Stops,.i a0.Handle,(.seq 4 (List.map A9 a0.Crates)),(.seq 2 (List.map C1 a0.Apart)),(.mp (H.length + 3))]) rfl rfl rfl) rfl<|qm rfl<|qm rfl<|es (ra2 rfl rfl)<|C4<|InlQ.mk trivial ⟨_,_,_,[(.ptr (H.length + 4) 0),.i 0],_,(B1 rfl (B1 rfl B7)),(A5 rfl (A5 rfl B6)),(A24 (U4 (A2z rfl)) (D9 rfl (D9 rfl M5))),?_⟩
  refine qm rfl<|A0 (A7 rfl rfl) rfl<|A0 (A7 rfl rfl) rfl<|A0 E6 rfl<|G6 (E2 (ds:=[(.ptr (H.length + 4) 0)]) rfl rfl rfl rfl (U1 (Nat.le_add_right _ _)) rfl) rfl<|qm rfl<|es (ra2 rfl rfl)<|B3<|s0<|qm rfl<|A0 (J9 (v:=(.b false)) rfl rfl rfl) rfl<|es (ra3 rfl rfl rfl)<|A0c rfl rfl<|C2<|sg 5 rfl<|A0 E6 rfl<|G6 (E2 (ds:=(cI 301)) rfl rfl rfl rfl (E1 rfl) rfl) rfl<|es (ra2 rfl rfl)<|B3<|s0<|A0 (B5 (x:=(.ptr (H.length + 4) 0)) rfl rfl rfl) rfl<|V4 (as2:=[(.ptr (H.length + 4) 0)]) (H1:=(H++[(.cells (A3 a0)),(.cells [(.ptr (H.length + 4) 0)]),(.cells (A3 a0)),(.map []),(.cells [(.seq 4 (List.map C0 a0.Vans)),.i a0.Stops,.i a0.Handle,(.seq 4 (List.map A9 a0.Crates)),(.seq 2 (List.map C1 a0.Apart)),(.mp (H.length + 3))]),(.cells (cI 301))])) rfl rfl (A2 rfl B4) rfl rfl rfl (A26 rfl)<|sg 6 rfl<|A0 (G0 (cs:=[(.ptr (H.length + 4) 0)]) rfl rfl rfl) rfl<|qm rfl<|es (ra1 rfl)<|s0<|A0 (A9a rfl rfl) rfl<|qm rfl<|es (ra1 rfl)<|C4<|InlQ.mk trivial ⟨_,_,_,[(.fn (.func 98) [] [(.ptr (H.length + 6) 0)])],_,(B1 rfl B7),(A5 rfl B6),(A24 (U4 (D17 (U4 (A2z rfl)))) (D9 rfl M5)),?_⟩
  refine es (ra3 rfl rfl rfl)<|B9<|oB h fun o7 ho7 h=>C9a (σ:=((List (IArr 6 × van_found)) × Int)) (ρ:=Unit) (k:=7) (ea:=(fun (x4:(IArr 6))=>(.agg ((cA .i64) x4)))) (body:=(A4u a0)) (pre:=fun H1=>hcells H1 (H.length + 6) = some [.ptr (H.length + 4) 0]∧hcells H1 (H.length + 4) = some (B2c (van_train.mk a0).VaTrain (.mp (H.length + 3)))) (C4a (t:=(van_train.mk a0).VaTrain) (b1:=H.length + 6) (bt:=H.length + 4) (m:=(.mp (H.length + 3)))) B5q [(4,(.ptr (H.length + 1) 0)),(6,(.ptr (H.length + 5) 0))] (fun s5=>[(.cells (A3 a0)),(.cells [(.ptr (H.length + 4) 0)]),(.cells (A3 a0)),(B2r s5.1),(.cells [(.seq 4 (List.map C0 a0.Vans)),.i a0.Stops,.i a0.Handle,(.seq 4 (List.map A9 a0.Crates)),(.seq 2 (List.map C1 a0.Apart)),(.mp (H.length + 3))]),(.cells (cI s5.2)),(.cells [(.ptr (H.length + 4) 0)])]) (fun (_:Unit)=>[(.cells (A3 a0)),(.cells [(.ptr (H.length + 4) 0)]),(.cells (A3 a0)),(.map []),(.cells [(.seq 4 (List.map C0 a0.Vans)),.i a0.Stops,.i a0.Handle,(.seq 4 (List.map A9 a0.Crates)),(.seq 2 (List.map C1 a0.Apart)),(.mp (H.length + 3))]),(.cells (cI 301)),(.cells [(.ptr (H.length + 4) 0)])]) (fun _=>.ret) ho7 (fun _=>rfl) rfl (fun S hS=>T5 (live:=[4,6]) rfl (by decide) (Sub.trans (su2 rfl rfl) hS)) rfl (fun _=>rfl) (fun _=>rfl) hcl (by rw [Bool.and_eq_true,Bool.and_eq_true]; exact ⟨⟨by kernel_rfl,by kernel_rfl⟩,(by simp [clH,clS,AO.cl,AV.cl,clL,clM,clR,A4z,B1f,A65,A41,cI,cB,cS,I9,freeL,AV.free,freeR,Nat.blt,O7,A40,M4,A14,J0,U9,L2,A0j,J5,V0,G9,M3,I4,P8] <;> omega)⟩) (fun _=>(by simp [clH,clS,AO.cl,AV.cl,clL,clM,clR,A4z,B1f,A65,A41,cI,cB,cS,I9,freeL,AV.free,freeR,Nat.blt,O7,A40,M4,A14,J0,U9,L2,A0j,J5,V0,G9,M3,I4,P8] <;> omega)) (fun _=>(by simp [clH,clS,AO.cl,AV.cl,clL,clM,clR,A4z,B1f,A65,A41,cI,cB,cS,I9,freeL,AV.free,freeR,Nat.blt,O7,A40,M4,A14,J0,U9,L2,A0j,J5,V0,G9,M3,I4,P8] <;> omega)) (fun _=>(by simp [clH,clS,AO.cl,AV.cl,clL,clM,clR,A4z,B1f,A65,A41,cI,cB,cS,I9,freeL,AV.free,freeR,Nat.blt,O7,A40,M4,A14,J0,U9,L2,A0j,J5,V0,G9,M3,I4,P8] <;> omega)) ⟨fun _ _=>(And.intro (F3 rfl) (F3 rfl)),fun _ _=>(And.intro (F3 rfl) (F3 rfl))⟩ (A1c hscv) (fun c x4 s5 o hs5=>?_) ?_
  ·unfold A4u at hs5
   refine rg 8 rfl<|A0 (E6 (zs:=(cA .i64) (IArr.zero 6))) rfl<|G6 (H9 (kk:=.i64) (u:=(IArr.zero 6)) (v:=x4) rfl rfl rfl) rfl<|en (ra3 rfl rfl rfl)<|⟨_,rfl,rfl,rfl,?_⟩
   refine B9<|r0<|oB hs5 fun x6 hx6 hs5=>A0 (B5 (x:=(.ptr (H.length + 4) 0)) rfl rfl rfl) rfl<|A0 (F7 (kk:=.i64) (v:=x4) rfl rfl) rfl<|C1w [5] [(.cells (A3 a0)),(.cells [(.ptr (H.length + 4) 0)]),(.cells (A3 a0)),(B2r x6.2),(.cells [(.seq 4 (List.map C0 a0.Vans)),.i a0.Stops,.i a0.Handle,(.seq 4 (List.map A9 a0.Crates)),(.seq 2 (List.map C1 a0.Apart)),(.mp (H.length + 3))]),(.cells (cI s5.2)),(.cells [(.ptr (H.length + 4) 0)]),_,(.cells ((cA .i64) x4))] (W5 [] rfl (B0a rfl A73 I7) rfl rfl) (seen0 rfl) (A94 (rs:=[(.agg (G8 x6.1))]) rfl rfl (A2 rfl (A2 A1b B4)) (C28 (ms:=s5.1) (jt:=4) (jm:=3) hx6 rfl rfl) rfl) rfl rfl rfl<|N8 [] (W5 [] rfl I7 rfl rfl) (B8y (b:=H.length + 5) rfl (A98 (A64 _ rfl) B5c)) (B5 rfl rfl rfl) rfl<|A0 (D78 (v:=(.i x6.1.lacks_)) rfl rfl) rfl<|A0 (B8g rfl rfl) rfl<|G6 (E2 (ds:=(cI (A89 s5.2 x6.1.lacks_))) rfl rfl rfl rfl (E1 rfl) rfl) rfl<|en .n ?_
   cases hs5
   exact ⟨_,rfl,rfl,rfl⟩
  ·rcases o7 with vo7_8 | vo7_9
   ·refine B3<|s0<|A0 (B5 rfl rfl rfl) rfl<|A0 (A37 rfl rfl) rfl<|es (ra2 rfl rfl)<|wi h rfl (fun hc10 h=>?_) fun hc10 h=>?_
    ·refine s0<|qm rfl<|qm rfl<|es (ra2 rfl rfl)<|C4 ?_
     obtain rfl:=os h
     exact retq trivial (B1 rfl (B1 rfl B7)) (A5 rfl (A5 rfl B6)) (A1 A4 (A1 A4 A8))
    ·refine C2<|s0<|A0 (B5 rfl rfl rfl) rfl<|qm rfl<|qm rfl<|es (ra2 rfl rfl)<|C4 ?_
     obtain rfl:=os h
     exact retq trivial (B1 rfl (B1 rfl B7)) (A5 rfl (A5 rfl B6)) (A1 A4 (A1 A4 A8))
   ·cases h
theorem B0r {c:Sc} {H:A6} (hscv:Z9 c H = true) {a0:VaTrain} {r:(Int × Int)} (h:A2y a0 = some r) :
  F2 tab c H (.fn (.func 35) [] []) [(.agg (A3 a0))] [.i r.1,.i r.2]:=B4n B5q (C1d (c:=⟨0,[]⟩) (H:=[]) rfl rfl h) (by simp [freeL,AV.free,I9,cI,cB,cS,A65,O7,M4,J0,L2,J5,G9,I4]) (by simp [freeL,AV.free,I9,cI,cB,cS,A65,O7,M4,J0,L2,J5,G9,I4]) hscv
def A34 (a0:Int):Option Int :=
 (B30 .u64 a0 1).bind fun x1 =>
 (B30 .u64 (IntKind.u64.wrap ((Q4 .u64 x1 6148914691236517205) + (Q4 .u64 a0 6148914691236517205))) 2).bind fun x2 =>
 (B30 .u64 (IntKind.u64.wrap ((Q4 .u64 x2 3689348814741910323) + (Q4 .u64 (IntKind.u64.wrap ((Q4 .u64 x1 6148914691236517205) + (Q4 .u64 a0 6148914691236517205))) 3689348814741910323))) 4).bind fun x3 =>
 (B30 .u64 (Q4 .u64 (IntKind.u64.wrap (x3 + (IntKind.u64.wrap ((Q4 .u64 x2 3689348814741910323) + (Q4 .u64 (IntKind.u64.wrap ((Q4 .u64 x1 6148914691236517205) + (Q4 .u64 a0 6148914691236517205))) 3689348814741910323))))) 1085102592571150095) 8).bind fun x4 =>
 (B30 .u64 (IntKind.u64.wrap ((Q4 .u64 (IntKind.u64.wrap (x3 + (IntKind.u64.wrap ((Q4 .u64 x2 3689348814741910323) + (Q4 .u64 (IntKind.u64.wrap ((Q4 .u64 x1 6148914691236517205) + (Q4 .u64 a0 6148914691236517205))) 3689348814741910323))))) 1085102592571150095) + x4)) 16).bind fun x5 =>
 (B30 .u64 (IntKind.u64.wrap ((IntKind.u64.wrap ((Q4 .u64 (IntKind.u64.wrap (x3 + (IntKind.u64.wrap ((Q4 .u64 x2 3689348814741910323) + (Q4 .u64 (IntKind.u64.wrap ((Q4 .u64 x1 6148914691236517205) + (Q4 .u64 a0 6148914691236517205))) 3689348814741910323))))) 1085102592571150095) + x4)) + x5)) 32).bind fun x6 =>
 some (B7m (w64 (IntKind.u64.wrap ((IntKind.u64.wrap ((IntKind.u64.wrap ((Q4 .u64 (IntKind.u64.wrap (x3 + (IntKind.u64.wrap ((Q4 .u64 x2 3689348814741910323) + (Q4 .u64 (IntKind.u64.wrap ((Q4 .u64 x1 6148914691236517205) + (Q4 .u64 a0 6148914691236517205))) 3689348814741910323))))) 1085102592571150095) + x4)) + x5)) + x6))) 127)
theorem B10 {c:Sc} {H:A6} {a0:Int} {r:Int} (h:A34 a0 = some r) :
  F2 tab c H (.fn (.func 103) [] []) [(.lit (.int .u64 a0))] [.i r]:= by
 unfold A34 at h
 refine cE rfl rfl<|s0<|qm rfl<|es (ra1 rfl)<|s0<|oB h fun x1 hx1 h=>qm rfl<|A0 (B6d rfl rfl hx1) rfl<|A0 (J9 (v:=(.lit (.int .u64 (Q4 .u64 x1 6148914691236517205)))) rfl rfl rfl) rfl<|qm rfl<|A0 (J9 (v:=(.lit (.int .u64 (Q4 .u64 a0 6148914691236517205)))) rfl rfl rfl) rfl<|A0 (J9 (v:=(.lit (.int .u64 (IntKind.u64.wrap ((Q4 .u64 x1 6148914691236517205) + (Q4 .u64 a0 6148914691236517205)))))) rfl rfl rfl) rfl<|qm rfl<|es (ra1 rfl)<|s0<|oB h fun x2 hx2 h=>qm rfl<|A0 (B6d rfl rfl hx2) rfl<|A0 (J9 (v:=(.lit (.int .u64 (Q4 .u64 x2 3689348814741910323)))) rfl rfl rfl) rfl<|qm rfl<|A0 (J9 (v:=(.lit (.int .u64 (Q4 .u64 (IntKind.u64.wrap ((Q4 .u64 x1 6148914691236517205) + (Q4 .u64 a0 6148914691236517205))) 3689348814741910323)))) rfl rfl rfl) rfl<|A0 (J9 (v:=(.lit (.int .u64 (IntKind.u64.wrap ((Q4 .u64 x2 3689348814741910323) + (Q4 .u64 (IntKind.u64.wrap ((Q4 .u64 x1 6148914691236517205) + (Q4 .u64 a0 6148914691236517205))) 3689348814741910323)))))) rfl rfl rfl) rfl<|qm rfl<|es (ra1 rfl)<|s0<|oB h fun x3 hx3 h=>qm rfl<|A0 (B6d rfl rfl hx3) rfl<|qm rfl<|A0 (J9 (v:=(.lit (.int .u64 (IntKind.u64.wrap (x3 + (IntKind.u64.wrap ((Q4 .u64 x2 3689348814741910323) + (Q4 .u64 (IntKind.u64.wrap ((Q4 .u64 x1 6148914691236517205) + (Q4 .u64 a0 6148914691236517205))) 3689348814741910323)))))))) rfl rfl rfl) rfl<|A0 (J9 (v:=(.lit (.int .u64 (Q4 .u64 (IntKind.u64.wrap (x3 + (IntKind.u64.wrap ((Q4 .u64 x2 3689348814741910323) + (Q4 .u64 (IntKind.u64.wrap ((Q4 .u64 x1 6148914691236517205) + (Q4 .u64 a0 6148914691236517205))) 3689348814741910323))))) 1085102592571150095)))) rfl rfl rfl) rfl<|qm rfl<|es (ra1 rfl)<|s0<|oB h fun x4 hx4 h=>qm rfl<|qm rfl<|A0 (B6d rfl rfl hx4) rfl<|A0 (J9 (v:=(.lit (.int .u64 (IntKind.u64.wrap ((Q4 .u64 (IntKind.u64.wrap (x3 + (IntKind.u64.wrap ((Q4 .u64 x2 3689348814741910323) + (Q4 .u64 (IntKind.u64.wrap ((Q4 .u64 x1 6148914691236517205) + (Q4 .u64 a0 6148914691236517205))) 3689348814741910323))))) 1085102592571150095) + x4))))) rfl rfl rfl) rfl<|qm rfl<|es (ra1 rfl)<|s0<|oB h fun x5 hx5 h=>qm rfl<|qm rfl<|A0 (B6d rfl rfl hx5) rfl<|A0 (J9 (v:=(.lit (.int .u64 (IntKind.u64.wrap ((IntKind.u64.wrap ((Q4 .u64 (IntKind.u64.wrap (x3 + (IntKind.u64.wrap ((Q4 .u64 x2 3689348814741910323) + (Q4 .u64 (IntKind.u64.wrap ((Q4 .u64 x1 6148914691236517205) + (Q4 .u64 a0 6148914691236517205))) 3689348814741910323))))) 1085102592571150095) + x4)) + x5))))) rfl rfl rfl) rfl<|qm rfl<|es (ra1 rfl)<|s0<|oB h fun x6 hx6 h=>qm rfl<|qm rfl<|A0 (B6d rfl rfl hx6) rfl<|A0 (J9 (v:=(.lit (.int .u64 (IntKind.u64.wrap ((IntKind.u64.wrap ((IntKind.u64.wrap ((Q4 .u64 (IntKind.u64.wrap (x3 + (IntKind.u64.wrap ((Q4 .u64 x2 3689348814741910323) + (Q4 .u64 (IntKind.u64.wrap ((Q4 .u64 x1 6148914691236517205) + (Q4 .u64 a0 6148914691236517205))) 3689348814741910323))))) 1085102592571150095) + x4)) + x5)) + x6))))) rfl rfl rfl) rfl<|qm rfl<|es (ra1 rfl)<|s0<|qm rfl<|A0 (A7e rfl) rfl<|A0 (J9 (v:=(.i (B7m (w64 (IntKind.u64.wrap ((IntKind.u64.wrap ((IntKind.u64.wrap ((Q4 .u64 (IntKind.u64.wrap (x3 + (IntKind.u64.wrap ((Q4 .u64 x2 3689348814741910323) + (Q4 .u64 (IntKind.u64.wrap ((Q4 .u64 x1 6148914691236517205) + (Q4 .u64 a0 6148914691236517205))) 3689348814741910323))))) 1085102592571150095) + x4)) + x5)) + x6))) 127))) rfl rfl rfl) rfl ?_
 refine qm rfl<|es (ra1 rfl)<|C4 ?_
 obtain rfl:=os h
 exact retq trivial (B1 rfl B7) (A5 rfl B6) (A1 A4 A8)
def A12 (a0:Int):Option Int :=
 (A34 a0).bind fun x1 =>
 some x1
theorem B3n {c:Sc} {H:A6} {a0:Int} {r:Int} (h:A12 a0 = some r) :
  F2 tab c H (.fn (.func 82) [] []) [(.lit (.int .u64 a0))] [.i r]:= by
 unfold A12 at h
 refine cE rfl rfl<|s0<|qm rfl<|es (ra1 rfl)<|B3<|A0c rfl rfl<|C2<|s0<|oB h fun x1 hx1 h=>qm rfl<|B2 (rs:=[.i x1]) rfl rfl (A2 rfl B4) ((B10 hx1).frz)<|qm rfl<|es (ra1 rfl)<|C4 ?_
 obtain rfl:=os h
 exact retq trivial (B1 rfl B7) (A5 rfl B6) (A1 A4 A8)
def A8b (a0:Int):Option Bool :=
 some (a0 != a0)
theorem B2t {c:Sc} {H:A6} {a0:Int} {r:Bool} (h:A8b a0 = some r) :
  F2 tab c H (.fn (.func 116) [] []) [.i a0] [.b r]:= by
 unfold A8b at h
 refine cE rfl rfl<|s0<|qm rfl<|es (ra1 rfl)<|s0<|qm rfl<|qm rfl<|A0 (F8 rfl rfl) rfl<|qm rfl<|es (ra1 rfl)<|C4 ?_
 obtain rfl:=os h
 exact retq trivial (B1 rfl B7) (A5 rfl B6) (A1 A4 A8)
def A87 (a0:Int) (a1:Int):Option Int :=
 (A8b a0).bind fun x1 =>
 (A8b a1).bind fun x2 =>
 if x1 = true then
  if x2 = true then
  some 0
  else
  some (-1)
 else
  if x2 = true then
  some 1
  else
  if (decide (a0 < a1)) = true then
   some (-1)
  else
   if (decide (a0 > a1)) = true then
   some 1
   else
   some 0
theorem B6z {c:Sc} {H:A6} {a0:Int} {a1:Int} {r:Int} (h:A87 a0 a1 = some r) :
  F2 tab c H (.fn (.func 104) [] []) [.i a0,.i a1] [.i r]:= by
 unfold A87 at h
 refine cE rfl rfl<|s0<|qm rfl<|es (ra2 rfl rfl)<|s0<|oB h fun x1 hx1 h=>qm rfl<|B2 (rs:=[.b x1]) rfl rfl (A2 rfl B4) ((B2t hx1).frz)<|qm rfl<|es (ra3 rfl rfl rfl)<|s0<|oB h fun x2 hx2 h=>qm rfl<|B2 (rs:=[.b x2]) rfl rfl (A2 rfl B4) ((B2t hx2).frz)<|qm rfl<|es (ra4 rfl rfl rfl rfl)<|B3<|s0<|qm rfl<|es (ra4 rfl rfl rfl rfl)<|wi h rfl (fun hc3 h=>?_) fun hc3 h=>?_
 ·refine B3<|s0<|qm rfl<|es (ra1 rfl)<|wi h rfl (fun hc4 h=>?_) fun hc4 h=>?_
  ·refine s0<|qm rfl<|es (ra1 rfl)<|C4 ?_
   obtain rfl:=os h
   exact retq trivial (B1 rfl B7) (A5 rfl B6) (A1 A4 A8)
  ·refine C2<|s0<|qm rfl<|es (ra1 rfl)<|C4 ?_
   obtain rfl:=os h
   exact retq trivial (B1 rfl B7) (A5 rfl B6) (A1 A4 A8)
 ·refine C2<|B3<|s0<|qm rfl<|es (ra3 rfl rfl rfl)<|wi h rfl (fun hc5 h=>?_) fun hc5 h=>?_
  ·refine s0<|qm rfl<|es (ra1 rfl)<|C4 ?_
   obtain rfl:=os h
   exact retq trivial (B1 rfl B7) (A5 rfl B6) (A1 A4 A8)
  ·refine C2<|B3<|s0<|qm rfl<|qm rfl<|A0 (F4 rfl rfl) rfl<|es (ra3 rfl rfl rfl)<|wi h rfl (fun hc6 h=>?_) fun hc6 h=>?_
   ·refine s0<|qm rfl<|es (ra1 rfl)<|C4 ?_
    obtain rfl:=os h
    exact retq trivial (B1 rfl B7) (A5 rfl B6) (A1 A4 A8)
   ·refine C2<|B3<|s0<|qm rfl<|qm rfl<|A0 (A37 rfl rfl) rfl<|es (ra1 rfl)<|wi h rfl (fun hc7 h=>?_) fun hc7 h=>?_
    ·refine s0<|qm rfl<|es (ra1 rfl)<|C4 ?_
     obtain rfl:=os h
     exact retq trivial (B1 rfl B7) (A5 rfl B6) (A1 A4 A8)
    ·refine C2<|s0<|qm rfl<|es (ra1 rfl)<|C4 ?_
     obtain rfl:=os h
     exact retq trivial (B1 rfl B7) (A5 rfl B6) (A1 A4 A8)
def A5l (a0:(List Int)) (a1:(List Int)) (s1:Int):Option (Int ⊕ (Int ⊕ Unit)) :=
 if (decide (s1 < (List.length a0:Int))) = true then
  (idx a0 s1).bind fun x4 =>
  if (decide (s1 ≥ (List.length a1:Int))) = true then
  some (.inr (.inl 1))
  else
  (idx a1 s1).bind fun x6 =>
  (A87 x4 x6).bind fun x7 =>
  if (x7 != 0) = true then
   some (.inr (.inl x7))
  else
   some (.inl (w64 (s1 + 1)))
 else
  some (.inr (.inr ()))
def Q2 (a0:(List Int)) (a1:(List Int)):Option Int :=
 (loop (A5l a0 a1) 0).bind fun (o9:(Int ⊕ Unit)) =>
 match o9 with
 | (.inl vo9_0) =>
  some vo9_0
 | (.inr vo9_1) =>
  if (decide ((List.length a0:Int) < (List.length a1:Int))) = true then
  some (-1)
  else
  some 0
theorem B1c {c:Sc} {H:A6} {a0:(List Int)} {a1:(List Int)} {r:Int} (h:Q2 a0 a1 = some r) :
  F2 tab c H (.fn (.func 83) [] []) [(.seq 1 (List.map cI a0)),(.seq 1 (List.map cI a1))] [.i r]:= by
 unfold Q2 at h
 refine cE rfl rfl<|s0<|qm rfl<|es (ra2 rfl rfl)<|B3<|s0<|qm rfl<|A0 (D3 (f:=cI) rfl) rfl<|qm rfl<|es (ra5 rfl rfl rfl rfl rfl)<|B9<|oB h fun o9 ho9 h=>wl (fun s1=>[(0,(.seq 1 (List.map cI a0))),(1,(.seq 1 (List.map cI a1))),(9,(.seq 1 (List.map cI a0))),(10,(.i (List.length a0:Int))),(11,.i s1)]) (fun (q2:Unit) s1=>[]) 0 (fun r e s' H'=>(match r with | (.inl v)=>e = .ret∧RetQ H [.tmp 4] [.i v] e s' H' | (.inr v)=>PX 0 [(0,(.seq 1 (List.map cI a0))),(1,(.seq 1 (List.map cI a1)))] (H++[]) e s' H':Prop)) () ho9 rfl rfl (fun _ _=>rfl) (fun _=>rfl) rfl (fun s1=>(bdc D8 (bdc D8 (bdc D8 (bdc A4 (bdc A4 bdn)))))) (fun q2 s1 ys1 hs1=>?_) ?_
 ·unfold A5l at hs1
  refine s0<|A0 (F4 rfl rfl) rfl<|es (ra6 rfl rfl rfl rfl rfl rfl)<|B3<|wi hs1 rfl (fun hc3 hs1=>?_) fun hc3 hs1=>?_
  ·refine C2<|B3<|B9<|s0<|oB hs1 fun x4 hx4 hs1=>qm rfl<|A0 (D4 (f:=cI) rfl rfl hx4) rfl<|A0 (D6 rfl rfl) rfl<|qm rfl<|qm rfl<|es (ra7 rfl rfl rfl rfl rfl rfl rfl)<|B3<|s0<|qm rfl<|qm rfl<|A0 (D3 (f:=cI) rfl) rfl<|A0 (B1e rfl rfl) rfl<|es (ra8 rfl rfl rfl rfl rfl rfl rfl rfl)<|wi hs1 rfl (fun hc5 hs1=>?_) fun hc5 hs1=>?_
   ·refine s0<|qm rfl<|es (ra1 rfl)<|C4 ?_
    obtain rfl:=os hs1
    exact lx rfl (And.intro rfl (retq trivial (B1 rfl B7) (A5 rfl B6) (A1 A4 A8))) (Sub.refl _)
   ·refine C2<|s0<|oB hs1 fun x6 hx6 hs1=>qm rfl<|qm rfl<|A0 (D4 (f:=cI) rfl rfl hx6) rfl<|A0 (D6 rfl rfl) rfl<|qm rfl<|es (ra7 rfl rfl rfl rfl rfl rfl rfl)<|s0<|oB hs1 fun x7 hx7 hs1=>qm rfl<|qm rfl<|B2 (rs:=[.i x7]) rfl rfl (A2 rfl (A2 rfl B4)) ((B6z hx7).frz)<|qm rfl<|es (ra6 rfl rfl rfl rfl rfl rfl)<|s0<|qm rfl<|A0 (F8 rfl rfl) rfl<|es (ra7 rfl rfl rfl rfl rfl rfl rfl)<|wi hs1 rfl (fun hc8 hs1=>?_) fun hc8 hs1=>?_
    ·refine s0<|qm rfl<|qm rfl<|es (ra1 rfl)<|C4 ?_
     obtain rfl:=os hs1
     exact lx rfl (And.intro rfl (retq trivial (B1 rfl B7) (A5 rfl B6) (A1 A4 A8))) (Sub.refl _)
    ·refine C2<|r0<|A0 (D7 rfl rfl) rfl<|qm rfl<|en (ra5 rfl rfl rfl rfl rfl) ?_
     cases hs1
     exact lnT () rfl (su5 rfl rfl rfl rfl rfl)
  ·refine E3 ?_
   obtain rfl:=os hs1
   exact lx rfl px (su2 rfl rfl)
 ·rcases o9 with vo9_0 | vo9_1
  ·rintro e s' H' - ⟨rfl,hret⟩
   cases h
   exact hret
  ·rintro e s' H' - ⟨rfl,rfl,rfl⟩
   refine B3<|s0<|qm rfl<|A0 (D3 (f:=cI) rfl) rfl<|qm rfl<|A0 (D3 (f:=cI) rfl) rfl<|A0 (F4 rfl rfl) rfl<|es (ra1 rfl)<|wi h rfl (fun hc10 h=>?_) fun hc10 h=>?_
   ·refine s0<|qm rfl<|es (ra1 rfl)<|C4 ?_
    obtain rfl:=os h
    exact retq trivial (B1 rfl B7) (A5 rfl B6) (A1 A4 A8)
   ·refine C2<|s0<|qm rfl<|es (ra1 rfl)<|C4 ?_
    obtain rfl:=os h
    exact retq trivial (B1 rfl B7) (A5 rfl B6) (A1 A4 A8)
def W0 (a0:van_train) (a1:Int) (s1:(Int × (List VaPair))):Option ((Int × (List VaPair)) ⊕ (List VaPair)) :=
 if (decide (s1.1 < (List.length a0.VaTrain.Apart:Int))) = true then
  (idx a0.VaTrain.Apart s1.1).bind fun x4 =>
  (B30 .i64 a1 s1.1).bind fun x5 =>
  if ((B7m x5 1) == 0) = true then
  (app 16 s1.2 [x4]).bind fun x7 =>
  some (.inl ((w64 (s1.1 + 1)),x7))
  else
  some (.inl ((w64 (s1.1 + 1)),s1.2))
 else
  some (.inr s1.2)
def A05 (a0:van_train) (o8:(List VaPair)) (x10:(IArr 6)) (s11:(List (IArr 6 × van_found))):Option ((List (IArr 6 × van_found)) ⊕ (List (IArr 6 × van_found))) :=
 (B8a (van_train.mk (VaTrain.mk a0.VaTrain.Vans a0.VaTrain.Stops a0.VaTrain.Handle a0.VaTrain.Crates o8)).VaTrain s11 x10).bind fun x12 =>
 if (x12.1.sure_ == (List.length a0.VaTrain.Crates:Int)) = true then
  some (.inr x12.2)
 else
  some (.inl x12.2)
def A3w (a0:van_train) (a1:Int):Option Bool :=
 (loop (W0 a0 a1) (0,([]:List VaPair))).bind fun (o8:(List VaPair)) =>
 (A9p (van_train.mk (VaTrain.mk a0.VaTrain.Vans a0.VaTrain.Stops a0.VaTrain.Handle a0.VaTrain.Crates o8)).VaTrain (List (IArr 6 × van_found)) (List (IArr 6 × van_found)) (A05 a0 o8) ([]:(List (IArr 6 × van_found)))).bind fun (o14:((List (IArr 6 × van_found)) ⊕ (List (IArr 6 × van_found)))) =>
 match o14 with
 | (.inl vo14_15) =>
  some false
 | (.inr vo14_16) =>
  some true
theorem B64 {c:Sc} {H:A6} (hscv:Z9 c H = true) (hcl:clH H.length H = true) {a0:van_train} {m0_5:AV} {b0:Nat} (hb0:hcells H b0 = some [(.seq 4 (List.map C0 a0.VaTrain.Vans)),.i a0.VaTrain.Stops,.i a0.VaTrain.Handle,(.seq 4 (List.map A9 a0.VaTrain.Crates)),(.seq 2 (List.map C1 a0.VaTrain.Apart)),m0_5]) {a1:Int} {r:Bool} (h:A3w a0 a1 = some r) :
  F2 tab c H (.fn (.func 84) [] []) [.ptr b0 0,.i a1] [.b r]:= by
 unfold A3w at h
 refine cE rfl rfl<|sg 0 rfl<|A0 (G0 (cs:=[.ptr b0 0]) rfl rfl rfl) rfl<|A0 E6 rfl<|es (ra3 rfl rfl rfl)<|sg 2 rfl<|A0 (B5 (x:=(.ptr b0 0)) rfl rfl rfl) rfl<|A0 (M9 rfl rfl) rfl<|A0 (C3m (ds:=[(.seq 4 (List.map C0 a0.VaTrain.Vans)),.i a0.VaTrain.Stops,.i a0.VaTrain.Handle,(.seq 4 (List.map A9 a0.VaTrain.Crates)),(.seq 2 (List.map C1 a0.VaTrain.Apart)),m0_5]) rfl hb0 rfl rfl) rfl<|A0 D00 rfl<|G6 (E2 (ds:=[(.seq 4 (List.map C0 a0.VaTrain.Vans)),.i a0.VaTrain.Stops,.i a0.VaTrain.Handle,(.seq 4 (List.map A9 a0.VaTrain.Crates)),(.seq 2 (List.map C1 a0.VaTrain.Apart)),m0_5]) rfl rfl rfl rfl (U1 (Nat.le_add_right _ _)) rfl) rfl<|es (ra4 rfl rfl rfl rfl)<|sg 4 rfl<|A0 A9k rfl<|A0 (C3 rfl) rfl<|G6 (E2 (ds:=[(.seq 4 (List.map C0 a0.VaTrain.Vans)),.i a0.VaTrain.Stops,.i a0.VaTrain.Handle,(.seq 4 (List.map A9 a0.VaTrain.Crates)),(.seq 2 (List.map C1 a0.VaTrain.Apart)),(.mp (H.length + 4))]) rfl rfl rfl rfl (U1 (Nat.le_add_right _ _)) rfl) rfl<|A0 (C3 rfl) rfl<|A0 (C3 rfl) rfl<|G6 (D8b (ds:=[(.seq 4 (List.map C0 a0.VaTrain.Vans)),.i a0.VaTrain.Stops,.i a0.VaTrain.Handle,(.seq 4 (List.map A9 a0.VaTrain.Crates)),(.asl (H.length + 5) (List.length ([]:List VaPair))),(.mp (H.length + 4))]) rfl rfl rfl (U1 (Nat.le_add_right _ _)) rfl) rfl<|es (ra4 rfl rfl rfl rfl)<|B3<|s0<|A0 (B5 (x:=(.ptr b0 0)) rfl rfl rfl) rfl<|A0 (M9 rfl rfl) rfl<|A0 (C3 rfl) rfl<|A0 (C3 rfl) rfl<|A0 (I0 (x:=(.seq 2 (List.map C1 a0.VaTrain.Apart))) rfl hb0 rfl) rfl<|A0 (D3 (f:=C1) rfl) rfl<|qm rfl<|es (ra7 rfl rfl rfl rfl rfl rfl rfl)<|B9<|oB h fun o8 ho8 h=>wl (fun s1=>[(1,.i a1),(2,(.ptr (H.length + 0) 0)),(4,(.ptr (H.length + 1) 0)),(5,(.ptr (H.length + 3) 0)),(20,(.seq 2 (List.map C1 a0.VaTrain.Apart))),(21,(.i (List.length a0.VaTrain.Apart:Int))),(22,.i s1.1)]) (fun (q2:Unit) s1=>[(.cells [.ptr b0 0]),(.cells (cB false)),(.arr 2 false (List.map C1 ([]:List VaPair))),(.cells [(.seq 4 (List.map C0 a0.VaTrain.Vans)),.i a0.VaTrain.Stops,.i a0.VaTrain.Handle,(.seq 4 (List.map A9 a0.VaTrain.Crates)),(.asl (H.length + 5) (List.length s1.2)),(.mp (H.length + 4))]),(.map []),(.arr 2 false (List.map C1 s1.2))]) 6 (fun r e s' H'=>PX 0 [(2,(.ptr (H.length + 0) 0)),(4,(.ptr (H.length + 1) 0)),(5,(.ptr (H.length + 3) 0))] (H++[(.cells [.ptr b0 0]),(.cells (cB false)),(.arr 2 false (List.map C1 ([]:List VaPair))),(.cells [(.seq 4 (List.map C0 a0.VaTrain.Vans)),.i a0.VaTrain.Stops,.i a0.VaTrain.Handle,(.seq 4 (List.map A9 a0.VaTrain.Crates)),(.asl (H.length + 5) (List.length r)),(.mp (H.length + 4))]),(.map []),(.arr 2 false (List.map C1 r))]) e s' H') () ho8 rfl rfl (fun _ _=>rfl) (fun _=>rfl) rfl (fun s1=>(bdc A4 (bdc (D5 rfl) (bdc (D5 rfl) (bdc (D5 rfl) (bdc D8 (bdc A4 (bdc A4 bdn)))))))) (fun q2 s1 ys1 hs1=>?_) ?_
 ·unfold W0 at hs1
  refine s0<|A0 (F4 rfl rfl) rfl<|es (ra8 rfl rfl rfl rfl rfl rfl rfl rfl)<|B3<|wi hs1 rfl (fun hc3 hs1=>?_) fun hc3 hs1=>?_
  ·refine C2<|B3<|B9<|sg 6 rfl<|oB hs1 fun x4 hx4 hs1=>qm rfl<|A0 (D4 (f:=C1) rfl rfl hx4) rfl<|A0 (K0 rfl rfl) rfl<|A0 E6 rfl<|qm rfl<|G6 (E2 (ds:=(C1 x4)) rfl rfl rfl rfl (E1 rfl) rfl) rfl<|es (ra9 rfl rfl rfl rfl rfl rfl rfl rfl rfl)<|s0<|oB hs1 fun x5 hx5 hs1=>qm rfl<|qm rfl<|A0 (B6d rfl rfl hx5) rfl<|A0 (J9 (v:=(.i (B7m x5 1))) rfl rfl rfl) rfl<|A0 (G7 rfl rfl) rfl<|es (ra9 rfl rfl rfl rfl rfl rfl rfl rfl rfl)<|wi hs1 rfl (fun hc6 hs1=>?_) fun hc6 hs1=>?_
   ·refine r0<|oB hs1 fun x7 hx7 hs1=>A0 (C3 rfl) rfl<|A0 (C3 rfl) rfl<|A0 (B5 (x:=(.asl (H.length + 5) (List.length s1.2))) rfl rfl rfl) rfl<|A0 (C5 rfl rfl rfl) rfl<|A0 (I8 (rows:=List.map C1 [x4]) rfl rfl (E4 (fun _=>rfl) _)) rfl<|A35 (W8 (f:=C1) rfl rfl rfl rfl U0 (fun _=>rfl) hx7) rfl<|A0 (C3 rfl) rfl<|A0 (C3 rfl) rfl<|G6 (E2 (ds:=[(.seq 4 (List.map C0 a0.VaTrain.Vans)),.i a0.VaTrain.Stops,.i a0.VaTrain.Handle,(.seq 4 (List.map A9 a0.VaTrain.Crates)),(.asl (H.length + 5) (List.length x7)),(.mp (H.length + 4))]) rfl rfl rfl rfl (E0m (U8 rfl) (E3v (Nat.le_add_right _ _) (E2a hscv))) rfl) rfl<|en (ra7 rfl rfl rfl rfl rfl rfl rfl)<|r0<|A0 (D7 rfl rfl) rfl<|qm rfl<|en (ra7 rfl rfl rfl rfl rfl rfl rfl) ?_
    cases hs1
    exact lnT () rfl (su7 rfl rfl rfl rfl rfl rfl rfl)
   ·refine C2<|r0<|A0 (D7 rfl rfl) rfl<|qm rfl<|en (ra7 rfl rfl rfl rfl rfl rfl rfl) ?_
    cases hs1
    exact lnT () rfl (su7 rfl rfl rfl rfl rfl rfl rfl)
  ·refine E3 ?_
   obtain rfl:=os hs1
   exact lx rfl px (su3 rfl rfl rfl)
 ·rintro e s' H' - ⟨rfl,rfl,rfl⟩
  refine B3<|B3<|D4s (E0x rfl rfl (A21 rfl (A21 rfl (A21 rfl (A21 rfl (A21 (C8i rfl (List.length_map _)) (A21 rfl D2k)))))) rfl)<|r0<|V4 (as2:=[(.ptr (H.length + 3) 0)]) (H1:=(H++[(.cells [.ptr b0 0]),(.cells (cB false)),(.arr 2 false (List.map C1 ([]:List VaPair))),(.cells [(.seq 4 (List.map C0 a0.VaTrain.Vans)),.i a0.VaTrain.Stops,.i a0.VaTrain.Handle,(.seq 4 (List.map A9 a0.VaTrain.Crates)),(.seq 2 (List.map C1 o8)),(.mp (H.length + 4))]),(.map []),(.arr 2 true (List.map C1 o8))])) rfl rfl (A2 rfl B4) rfl rfl rfl (A26 rfl)<|sg 6 rfl<|A0 (G0 (cs:=[(.ptr (H.length + 3) 0)]) rfl rfl rfl) rfl<|qm rfl<|es (ra1 rfl)<|s0<|A0 (A9a rfl rfl) rfl<|qm rfl<|es (ra1 rfl)<|C4<|InlQ.mk trivial ⟨_,_,_,[(.fn (.func 98) [] [(.ptr (H.length + 6) 0)])],_,(B1 rfl B7),(A5 rfl B6),(A24 (U4 (D17 (U4 (A2z rfl)))) (D9 rfl M5)),?_⟩
  refine es (ra4 rfl rfl rfl rfl)<|B9<|oB h fun o14 ho14 h=>?_
  have hb0_lt:=A46 hb0
  refine C9a (σ:=(List (IArr 6 × van_found))) (ρ:=(List (IArr 6 × van_found))) (k:=7) (ea:=(fun (x10:(IArr 6))=>(.agg ((cA .i64) x10)))) (body:=(A05 a0 o8)) (pre:=fun H1=>hcells H1 (H.length + 6) = some [.ptr (H.length + 3) 0]∧hcells H1 (H.length + 3) = some (B2c (van_train.mk (VaTrain.mk a0.VaTrain.Vans a0.VaTrain.Stops a0.VaTrain.Handle a0.VaTrain.Crates o8)).VaTrain (.mp (H.length + 4)))) (C4a (t:=(van_train.mk (VaTrain.mk a0.VaTrain.Vans a0.VaTrain.Stops a0.VaTrain.Handle a0.VaTrain.Crates o8)).VaTrain) (b1:=H.length + 6) (bt:=H.length + 3) (m:=(.mp (H.length + 4)))) B5q [(2,(.ptr (H.length + 0) 0)),(4,(.ptr (H.length + 1) 0)),(5,(.ptr (H.length + 3) 0))] (fun s11=>[(.cells [.ptr b0 0]),(.cells (cB false)),(.arr 2 false (List.map C1 ([]:List VaPair))),(.cells [(.seq 4 (List.map C0 a0.VaTrain.Vans)),.i a0.VaTrain.Stops,.i a0.VaTrain.Handle,(.seq 4 (List.map A9 a0.VaTrain.Crates)),(.seq 2 (List.map C1 o8)),(.mp (H.length + 4))]),(B2r s11),(.arr 2 true (List.map C1 o8)),(.cells [(.ptr (H.length + 3) 0)])]) (fun (vo14_16:(List (IArr 6 × van_found)))=>[(.cells [.ptr b0 0]),(.cells (cB true)),(.arr 2 false (List.map C1 ([]:List VaPair))),(.cells [(.seq 4 (List.map C0 a0.VaTrain.Vans)),.i a0.VaTrain.Stops,.i a0.VaTrain.Handle,(.seq 4 (List.map A9 a0.VaTrain.Crates)),(.seq 2 (List.map C1 o8)),(.mp (H.length + 4))]),(B2r vo14_16),(.arr 2 true (List.map C1 o8)),(.cells [(.ptr (H.length + 3) 0)])]) (fun _=>.ret) ho14 (fun _=>rfl) rfl (fun S hS=>T5 (live:=[2,4,5]) rfl (by decide) (Sub.trans (su3 rfl rfl rfl) hS)) rfl (fun _=>rfl) (fun _=>rfl) hcl (by rw [Bool.and_eq_true,Bool.and_eq_true]; exact ⟨⟨by kernel_rfl,by kernel_rfl⟩,(by simp [clH,clS,AO.cl,AV.cl,clL,clM,clR,A4z,B1f,A65,A41,cI,cB,cS,I9,freeL,AV.free,freeR,Nat.blt,O7,A40,M4,A14,J0,U9,L2,A0j,J5,V0,G9,M3,I4,P8] <;> omega)⟩) (fun _=>(by simp [clH,clS,AO.cl,AV.cl,clL,clM,clR,A4z,B1f,A65,A41,cI,cB,cS,I9,freeL,AV.free,freeR,Nat.blt,O7,A40,M4,A14,J0,U9,L2,A0j,J5,V0,G9,M3,I4,P8] <;> omega)) (fun _=>(by simp [clH,clS,AO.cl,AV.cl,clL,clM,clR,A4z,B1f,A65,A41,cI,cB,cS,I9,freeL,AV.free,freeR,Nat.blt,O7,A40,M4,A14,J0,U9,L2,A0j,J5,V0,G9,M3,I4,P8] <;> omega)) (fun _=>(by simp [clH,clS,AO.cl,AV.cl,clL,clM,clR,A4z,B1f,A65,A41,cI,cB,cS,I9,freeL,AV.free,freeR,Nat.blt,O7,A40,M4,A14,J0,U9,L2,A0j,J5,V0,G9,M3,I4,P8] <;> omega)) ⟨fun _ _=>(And.intro (F3 rfl) (F3 rfl)),fun _ _=>(And.intro (F3 rfl) (F3 rfl))⟩ (A1c hscv) (fun c x10 s11 o hs11=>?_) ?_
  ·unfold A05 at hs11
   refine rg 8 rfl<|A0 (E6 (zs:=(cA .i64) (IArr.zero 6))) rfl<|G6 (H9 (kk:=.i64) (u:=(IArr.zero 6)) (v:=x10) rfl rfl rfl) rfl<|en (ra4 rfl rfl rfl rfl)<|⟨_,rfl,rfl,rfl,?_⟩
   refine B9<|s0<|oB hs11 fun x12 hx12 hs11=>A0 (F7 (kk:=.i64) (v:=x10) rfl rfl) rfl<|D8k [0] [(.cells [.ptr b0 0]),(.cells (cB false)),(.arr 2 false (List.map C1 ([]:List VaPair))),(.cells [(.seq 4 (List.map C0 a0.VaTrain.Vans)),.i a0.VaTrain.Stops,.i a0.VaTrain.Handle,(.seq 4 (List.map A9 a0.VaTrain.Crates)),(.seq 2 (List.map C1 o8)),(.mp (H.length + 4))]),(B2r x12.2),(.arr 2 true (List.map C1 o8)),(.cells [(.ptr (H.length + 3) 0)]),_,(.cells ((cA .i64) x10))] (A46 hb0) (E1u [] rfl (B0a rfl A73 (B0a rfl (C97 (F3 rfl) rfl A73) I7)) rfl rfl (A46 hb0)) (seen0 rfl) (A94 (rs:=[(.agg (G8 x12.1))]) rfl rfl (A2 rfl (A2 A1b B4)) (D7x (J7 _ _ _) (ms:=s11) (jt:=3) (jm:=4) hx12 rfl rfl) rfl) rfl rfl rfl<|A0 (D78 (v:=(.i x12.1.sure_)) rfl rfl) rfl<|N8 [] (W5 [] rfl I7 rfl rfl) (B8y (b:=H.length + 0) rfl (A98 (C5g _ _ rfl) B5c)) (B5 (x:=(.ptr b0 0)) rfl rfl rfl) rfl<|A0 (M9 rfl rfl) rfl<|A0 (C3 rfl) rfl<|A0 (C3 rfl) rfl<|N8 [] (W5 [] rfl I7 rfl rfl) (B8y (b:=b0) rfl (A98 (C5h _ _) B5c)) (I0 (x:=(.seq 4 (List.map A9 a0.VaTrain.Crates))) rfl hb0 rfl) rfl<|N8 [] (W5 [] rfl I7 rfl rfl) (D57 rfl) (D3 (f:=A9) rfl) rfl<|A0 (G7 rfl rfl) rfl<|es (ra2 rfl rfl)<|wi hs11 rfl (fun hc13 hs11=>?_) fun hc13 hs11=>?_
   ·refine s0<|G6 (E2 (ds:=(cB true)) rfl rfl rfl rfl (E1 rfl) rfl) rfl<|es .n<|C4 ?_
    cases hs11
    exact ⟨_,rfl,rfl,rfl⟩
   ·refine C2 ?_
    cases hs11
    exact ⟨_,rfl,rfl,rfl⟩
  ·rcases o14 with vo14_15 | vo14_16
   ·refine s0<|G6 (E2 (ds:=(cB false)) rfl rfl rfl rfl (E1 rfl) rfl) rfl<|es (ra1 rfl)<|C4 ?_
    obtain rfl:=os h
    exact retq trivial (M2 (B5 (x:=(.b false)) rfl rfl rfl) B7) (A5 rfl B6) (A1 A4 A8)
   ·obtain rfl:=os h
    exact retq trivial (M2 (B5 (x:=(.b true)) rfl rfl rfl) B7) (A5 rfl B6) (A1 A4 A8)
def A5f (a0:VaTrain) (s4:((List Int) × Bool × Int)) (s7:(Int × (List Int))):Option ((Int × (List Int)) ⊕ (List Int)) :=
 if (decide (s7.1 < (List.length a0.Apart:Int))) = true then
  (B30 .i64 s4.2.2 s7.1).bind fun x10 =>
  if ((B7m x10 1) == 1) = true then
  (app 8 s7.2 [s7.1]).bind fun x12 =>
  some (.inl ((w64 (s7.1 + 1)),x12))
  else
  some (.inl ((w64 (s7.1 + 1)),s7.2))
 else
  some (.inr s7.2)
def A5g (a0:VaTrain) (x3:Int) (s4:((List Int) × Bool × Int)):Option (((List Int) × Bool × Int) ⊕ ((List Int) × Bool)) :=
 if (decide (s4.2.2 < x3)) = true then
  (loop (A5f a0 s4) (0,([]:List Int))).bind fun (o13:(List Int)) =>
  (if s4.2.1 = true then
  (A12 (IntKind.u64.wrap s4.2.2)).bind fun x15 =>
  (if (decide (x15 > (List.length s4.1:Int))) = true then
   some true
  else
   (if ((List.length o13:Int) == (List.length s4.1:Int)) = true then
   (Q2 o13 s4.1).bind fun x18 =>
   some (decide (x18 > 0))
   else
   some false).bind fun x19 =>
   some x19).bind fun x20 =>
  some x20
  else
  some false).bind fun x21 =>
  if x21 = true then
  some (.inl (s4.1,s4.2.1,(w64 (s4.2.2 + 1))))
  else
  (A3w (van_train.mk a0) s4.2.2).bind fun x23 =>
  if x23 = true then
   some (.inl (o13,true,(w64 (s4.2.2 + 1))))
  else
   some (.inl (s4.1,s4.2.1,(w64 (s4.2.2 + 1))))
 else
  some (.inr (s4.1,s4.2.1))
def A0u (a0:VaTrain):Option ((List Int) × Int) :=
 (V8 a0).bind fun x1 =>
 if (x1.2.2 != 0) = true then
  some (([]:List Int),x1.2.2)
 else
  (D3e .i64 1 (List.length a0.Apart:Int)).bind fun x3 =>
  (loop (A5g a0 x3) (([]:List Int),false,0)).bind fun (o25:((List Int) × Bool)) =>
  if (!o25.2) = true then
  some (([]:List Int),9)
  else
  some (o25.1,0)
theorem C5o {c:Sc} {H:A6} (hscv:Z9 c H = true) (hcl:clH H.length H = true) {a0:VaTrain} {r:((List Int) × Int)} (h:A0u a0 = some r) :
  F2 tab c H (.fn (.func 33) [] []) [(.agg (A3 a0))] [(.seq 1 (List.map cI r.1)),.i r.2]:= by
 unfold A0u at h
 refine cE rfl rfl<|sg 0 rfl<|A0 (G0 (cs:=A3 a0) rfl rfl rfl) rfl<|qm rfl<|qm rfl<|es (ra2 rfl rfl)<|s0<|A0 (C5 rfl rfl rfl) rfl<|V4 (as2:=[(.agg (A3 a0))]) (H1:=(H++[(.cells (A3 a0))])) rfl rfl (A2 (D2 rfl) B4) rfl rfl rfl (A26 rfl)<|sg 1 rfl<|A0 (G0 (cs:=A3 a0) rfl rfl rfl) rfl<|qm rfl<|qm rfl<|es (ra1 rfl)<|B3<|s0<|oB h fun x1 hx1 h=>A0 (C5 rfl rfl rfl) rfl<|B2 (rs:=[.i x1.1,.i x1.2.1,.i x1.2.2]) rfl rfl (A2 (D2 rfl) B4) ((Z5 hx1).frz)<|qm rfl<|A0 (A7 rfl rfl) rfl<|A0 (A7 rfl rfl) rfl<|A0 (A7 rfl rfl) rfl<|qm rfl<|qm rfl<|qm rfl<|es (ra2 rfl rfl)<|s0<|qm rfl<|A0 (F8 rfl rfl) rfl<|es (ra3 rfl rfl rfl)<|wi h rfl (fun hc2 h=>?_) fun hc2 h=>?_
 ·refine s0<|qm rfl<|qm rfl<|qm rfl<|es (ra2 rfl rfl)<|C4<|InlQ.mk trivial ⟨_,_,_,[(.lit (.pointer none)),.i x1.2.2],_,(B1 rfl (B1 rfl B7)),(A5 rfl (A5 rfl B6)),(Z1 (A1 A4 (A1 A4 A8)) (D9 rfl (D9 rfl M5)) (K7 _ _ _)),?_⟩
  refine qm rfl<|A0 (A7 rfl rfl) rfl<|A0 (A7 rfl rfl) rfl<|qm rfl<|qm rfl<|es (ra4 rfl rfl rfl rfl)<|B3<|s0<|qm rfl<|A0 (F8 rfl rfl) rfl<|es (ra5 rfl rfl rfl rfl rfl)<|N0 rfl hc2<|s0<|qm rfl<|qm rfl<|qm rfl<|es (ra2 rfl rfl)<|C4 ?_
  obtain rfl:=os h
  exact retq trivial (B1 rfl (B1 rfl B7)) (A5 rfl (A5 rfl B6)) (A1 D8 (A1 A4 A8))
 ·refine C2<|sg 2 rfl<|A0 (C5 rfl rfl rfl) rfl<|A0 A9k rfl<|A0 (N7 (cs:=[(.seq 4 (List.map C0 a0.Vans)),.i a0.Stops,.i a0.Handle,(.seq 4 (List.map A9 a0.Crates)),(.seq 2 (List.map C1 a0.Apart)),(.mp (H.length + 2))]) rfl rfl) rfl<|A0 (G0 (cs:=[(.seq 4 (List.map C0 a0.Vans)),.i a0.Stops,.i a0.Handle,(.seq 4 (List.map A9 a0.Crates)),(.seq 2 (List.map C1 a0.Apart)),(.mp (H.length + 2))]) rfl rfl rfl) rfl<|qm rfl<|qm rfl<|es (ra2 rfl rfl)<|C4<|InlQ.mk trivial ⟨_,_,_,[(.ptr (H.length + 3) 0),.i 0],_,(B1 rfl (B1 rfl B7)),(A5 rfl (A5 rfl B6)),(A24 (U4 (A2z rfl)) (D9 rfl (D9 rfl M5))),?_⟩
  refine qm rfl<|A0 (A7 rfl rfl) rfl<|A0 (A7 rfl rfl) rfl<|qm rfl<|qm rfl<|es (ra4 rfl rfl rfl rfl)<|B3<|s0<|qm rfl<|A0 (J9 (v:=(.b false)) rfl rfl rfl) rfl<|es (ra5 rfl rfl rfl rfl rfl)<|A0c rfl rfl<|C2<|s0<|qm rfl<|es (ra4 rfl rfl rfl rfl)<|B3<|s0<|oB h fun x3 hx3 h=>A0 (C3 rfl) rfl<|A0 (B5 rfl rfl rfl) rfl<|A0 (D3 (f:=C1) rfl) rfl<|A0 (E1m rfl rfl hx3) rfl<|qm rfl<|es (ra6 rfl rfl rfl rfl rfl rfl)<|B9<|oB h fun o25 ho25 h=>wl (fun s4=>[(1,(.ptr (H.length + 0) 0)),(2,(.seq 1 (List.map cI s4.1))),(4,(.ptr (H.length + 3) 0)),(5,.b s4.2.1),(20,.i x3),(21,.i s4.2.2)]) (fun (q5:Unit) s4=>[(.cells (A3 a0)),(.cells (A3 a0)),(.map []),(.cells [(.seq 4 (List.map C0 a0.Vans)),.i a0.Stops,.i a0.Handle,(.seq 4 (List.map A9 a0.Crates)),(.seq 2 (List.map C1 a0.Apart)),(.mp (H.length + 2))])]) 4 (fun r e s' H'=>PX 0 [(2,(.seq 1 (List.map cI r.1))),(5,.b r.2)] (H++[(.cells (A3 a0)),(.cells (A3 a0)),(.map []),(.cells [(.seq 4 (List.map C0 a0.Vans)),.i a0.Stops,.i a0.Handle,(.seq 4 (List.map A9 a0.Crates)),(.seq 2 (List.map C1 a0.Apart)),(.mp (H.length + 2))])]) e s' H') () ho25 rfl rfl (fun _ _=>rfl) (fun _=>rfl) rfl (fun s4=>(bdc (D5 rfl) (bdc D8 (bdc (D5 rfl) (bdc A4 (bdc A4 (bdc A4 bdn))))))) (fun q5 s4 ys4 hs4=>?_) ?_
  ·unfold A5g at hs4
   refine s0<|A0 (F4 rfl rfl) rfl<|es (ra7 rfl rfl rfl rfl rfl rfl rfl)<|B3<|wi hs4 rfl (fun hc6 hs4=>?_) fun hc6 hs4=>?_
   ·refine C2<|B3<|B9<|s0<|qm rfl<|qm rfl<|es (ra7 rfl rfl rfl rfl rfl rfl rfl)<|sg 4 rfl<|A0 A5y rfl<|es (ra8 rfl rfl rfl rfl rfl rfl rfl rfl)<|B3<|s0<|A0 (C3 rfl) rfl<|A0 (B5 rfl rfl rfl) rfl<|A0 (D3 (f:=C1) rfl) rfl<|qm rfl<|es (ra10 rfl rfl rfl rfl rfl rfl rfl rfl rfl rfl)<|B9<|oB hs4 fun o13 ho13 hs4=>wl (fun s7=>[(1,(.ptr (H.length + 0) 0)),(2,(.seq 1 (List.map cI s4.1))),(4,(.ptr (H.length + 3) 0)),(5,.b s4.2.1),(6,.i s4.2.2),(7,(.asl (H.length + 4) (List.length s7.2))),(20,.i x3),(21,.i s4.2.2),(26,(.i (List.length a0.Apart:Int))),(27,.i s7.1)]) (fun (q8:Unit) s7=>[(.cells (A3 a0)),(.cells (A3 a0)),(.map []),(.cells [(.seq 4 (List.map C0 a0.Vans)),.i a0.Stops,.i a0.Handle,(.seq 4 (List.map A9 a0.Crates)),(.seq 2 (List.map C1 a0.Apart)),(.mp (H.length + 2))]),(.arr 1 false (List.map cI s7.2))]) 5 (fun r e s' H'=>PX 2 [(1,(.ptr (H.length + 0) 0)),(2,(.seq 1 (List.map cI s4.1))),(4,(.ptr (H.length + 3) 0)),(5,.b s4.2.1),(6,.i s4.2.2),(7,(.asl (H.length + 4) (List.length r))),(20,.i x3),(21,.i s4.2.2)] (H++[(.cells (A3 a0)),(.cells (A3 a0)),(.map []),(.cells [(.seq 4 (List.map C0 a0.Vans)),.i a0.Stops,.i a0.Handle,(.seq 4 (List.map A9 a0.Crates)),(.seq 2 (List.map C1 a0.Apart)),(.mp (H.length + 2))]),(.arr 1 false (List.map cI r))]) e s' H') () ho13 rfl rfl (fun _ _=>rfl) (fun _=>rfl) rfl (fun s7=>(bdc (D5 rfl) (bdc D8 (bdc (D5 rfl) (bdc A4 (bdc A4 (bdc (U8 rfl) (bdc A4 (bdc A4 (bdc A4 (bdc A4 bdn))))))))))) (fun q8 s7 ys7 hs7=>?_) ?_
    ·unfold A5f at hs7
     refine s0<|A0 (F4 rfl rfl) rfl<|es (ra11 rfl rfl rfl rfl rfl rfl rfl rfl rfl rfl rfl)<|B3<|wi hs7 rfl (fun hc9 hs7=>?_) fun hc9 hs7=>?_
     ·refine C2<|B3<|B9<|s0<|qm rfl<|qm rfl<|es (ra11 rfl rfl rfl rfl rfl rfl rfl rfl rfl rfl rfl)<|s0<|oB hs7 fun x10 hx10 hs7=>qm rfl<|qm rfl<|A0 (B6d rfl rfl hx10) rfl<|A0 (J9 (v:=(.i (B7m x10 1))) rfl rfl rfl) rfl<|A0 (G7 rfl rfl) rfl<|es (ra12 rfl rfl rfl rfl rfl rfl rfl rfl rfl rfl rfl rfl)<|wi hs7 rfl (fun hc11 hs7=>?_) fun hc11 hs7=>?_
      ·refine r0<|oB hs7 fun x12 hx12 hs7=>qm rfl<|qm rfl<|A0 (I8 (rows:=List.map cI [s7.1]) rfl rfl (E4 (fun _=>rfl) _)) rfl<|A35 (W8 (f:=cI) rfl rfl rfl rfl U0 (fun _=>rfl) hx12) rfl<|qm rfl<|en (ra10 rfl rfl rfl rfl rfl rfl rfl rfl rfl rfl)<|r0<|A0 (D7 rfl rfl) rfl<|qm rfl<|en (ra10 rfl rfl rfl rfl rfl rfl rfl rfl rfl rfl) ?_
       cases hs7
       exact lnT () rfl (su10 rfl rfl rfl rfl rfl rfl rfl rfl rfl rfl)
      ·refine C2<|r0<|A0 (D7 rfl rfl) rfl<|qm rfl<|en (ra10 rfl rfl rfl rfl rfl rfl rfl rfl rfl rfl) ?_
       cases hs7
       exact lnT () rfl (su10 rfl rfl rfl rfl rfl rfl rfl rfl rfl rfl)
     ·refine E3 ?_
      obtain rfl:=os hs7
      exact lx rfl px (su8 rfl rfl rfl rfl rfl rfl rfl rfl)
    ·rintro e s' H' - ⟨rfl,rfl,rfl⟩
     refine B3<|B3<|D4s (C83 rfl (A88 rfl (List.length_map _)))<|r0<|oB hs4 fun x21 hx21 hs4=>qm rfl<|qm rfl<|gp 20 61 (.b x21) 41 rfl rfl (fun hg14=>?_) (fun hg14=>?_) ?_
     ·refine oB (bt hx21 hg14) fun x15 hx15 hx21=>oB hx21 fun x20 hx20 hx21=>?_
      obtain rfl:=os hx21
      refine gT rfl hg14<|qm rfl<|gT rfl hg14<|A0 (A7e rfl) rfl<|gT rfl hg14<|B2 (rs:=[.i x15]) rfl rfl (A2 rfl B4) ((B3n hx15).frz)<|gT rfl hg14<|qm rfl<|gT rfl hg14<|A0 (D3 (f:=cI) rfl) rfl<|gT rfl hg14<|A0 (A37 rfl rfl) rfl<|gT rfl hg14<|qm rfl<|gq 12 60 (.b x20) 48 rfl rfl (fun hg16=>?_) (fun hg16=>?_) ?_
      ·obtain rfl:=os (bt hx20 hg16)
       exact nF rfl hg16 rfl<|nF rfl hg16 rfl<|nF rfl hg16 rfl<|nF rfl hg16 rfl<|nF rfl hg16 rfl<|nF rfl hg16 rfl<|nX rfl rfl<|nX rfl rfl<|H8 (Y3 rfl) rfl<|nX rfl rfl<|nF rfl hg16 rfl<|gT rfl hg14<|A0 (C8 rfl hg16 rfl) rfl<|ge 12 rfl rfl rfl
      ·refine oB (bf hx20 hg16) fun x19 hx19 hx20=>?_
       obtain rfl:=os hx20
       refine gF rfl hg16<|qm rfl<|gF rfl hg16<|A0 (B6y (f:=cI) rfl rfl rfl) rfl<|gF rfl hg16<|qm rfl<|gF rfl hg16<|A0 (D3 (f:=cI) rfl) rfl<|gF rfl hg16<|A0 (G7 rfl rfl) rfl<|gF rfl hg16<|qm rfl<|gq 5 59 (.b x19) 54 rfl rfl (fun hg17=>?_) (fun hg17=>?_) ?_
       ·refine oB (bt hx19 hg17) fun x18 hx18 hx19=>?_
        obtain rfl:=os hx19
        exact gT rfl hg17<|qm rfl<|gT rfl hg17<|qm rfl<|gT rfl hg17<|B2 (rs:=[.i x18]) rfl rfl (A2 (A88 rfl (List.length_map _)) (A2 rfl B4)) ((B1c hx18).frz)<|gT rfl hg17<|A0 (A37 rfl rfl) rfl<|gF rfl hg16<|A0 (C8 rfl hg17 rfl) rfl<|ge 5 rfl rfl rfl
       ·obtain rfl:=os (bf hx19 hg17)
        exact nT rfl hg17 rfl<|nT rfl hg17 rfl<|H8 (E9 rfl (by rw [hg17]; rfl)) rfl<|nT rfl hg17 rfl<|gF rfl hg16<|A0 (C7 rfl hg17 rfl) rfl<|ge 5 rfl rfl rfl
       exact gT rfl hg14<|A0 (C7 rfl hg16 rfl) rfl<|ge 8 rfl rfl rfl
      exact A0 (C8 rfl hg14 rfl) rfl<|ge 9 rfl rfl rfl
     ·obtain rfl:=os (bf hx21 hg14)
      exact nT rfl hg14 rfl<|nT rfl hg14 rfl<|H8 (E9 rfl (by rw [hg14]; rfl)) rfl<|nT rfl hg14 rfl<|nT rfl hg14 rfl<|nT rfl hg14 rfl<|nT rfl hg14 rfl<|nX rfl rfl<|nX rfl rfl<|nX rfl rfl<|nX rfl rfl<|nX rfl rfl<|nX rfl rfl<|nX rfl rfl<|nX rfl rfl<|H8 (Y3 rfl) rfl<|nX rfl rfl<|nX rfl rfl<|nT rfl hg14 rfl<|A0 (C7 rfl hg14 rfl) rfl<|ge 20 rfl rfl rfl
     refine es (ra9 rfl rfl rfl rfl rfl rfl rfl rfl rfl)<|wi hs4 rfl (fun hc22 hs4=>?_) fun hc22 hs4=>?_
     ·refine E3<|r0<|A0 (D7 rfl rfl) rfl<|qm rfl<|en (ra6 rfl rfl rfl rfl rfl rfl) ?_
      cases hs4
      exact lnT () rfl (su6 rfl rfl rfl rfl rfl rfl)
     ·refine C2<|s0<|oB hs4 fun x23 hx23 hs4=>qm rfl<|qm rfl<|B2 (rs:=[.b x23]) rfl rfl (A2 rfl (A2 rfl B4)) ((B64 (E45 (k:=4) (l:=[]) rfl (A1c (l:=[]) hscv) rfl) (D9n hcl (by simp [clH,clS,AO.cl,AV.cl,clL,clM,clR,A4z,B1f,A65,A41,cI,cB,cS,I9,freeL,AV.free,freeR,Nat.blt,O7,A40,M4,A14,J0,U9,L2,A0j,J5,V0,G9,M3,I4,P8] <;> omega)) (F3 rfl) hx23).frz)<|es (ra8 rfl rfl rfl rfl rfl rfl rfl rfl)<|wi hs4 rfl (fun hc24 hs4=>?_) fun hc24 hs4=>?_
      ·refine r0<|qm rfl<|A35 (D8a rfl rfl (List.length_map _)) rfl<|qm rfl<|en (ra6 rfl rfl rfl rfl rfl rfl)<|r0<|A0 (D7 rfl rfl) rfl<|qm rfl<|en (ra6 rfl rfl rfl rfl rfl rfl) ?_
       cases hs4
       exact lnT () rfl (su6 rfl rfl rfl rfl rfl rfl)
      ·refine C2<|r0<|A0 (D7 rfl rfl) rfl<|qm rfl<|en (ra6 rfl rfl rfl rfl rfl rfl) ?_
       cases hs4
       exact lnT () rfl (su6 rfl rfl rfl rfl rfl rfl)
   ·refine E3 ?_
    obtain rfl:=os hs4
    exact lx rfl px (su2 rfl rfl)
  ·rintro e s' H' - ⟨rfl,rfl,rfl⟩
   refine B3<|s0<|qm rfl<|A0 (O3 rfl) rfl<|es (ra2 rfl rfl)<|wi h rfl (fun hc26 h=>?_) fun hc26 h=>?_
   ·refine s0<|qm rfl<|qm rfl<|es (ra2 rfl rfl)<|C4 ?_
    obtain rfl:=os h
    exact retq trivial (B1 rfl (B1 rfl B7)) (A5 rfl (A5 rfl B6)) (A1 D8 (A1 A4 A8))
   ·refine C2<|s0<|qm rfl<|qm rfl<|qm rfl<|es (ra2 rfl rfl)<|C4 ?_
    obtain rfl:=os h
    exact retq trivial (B1 rfl (B1 rfl B7)) (A5 rfl (A5 rfl B6)) (A1 D8 (A1 A4 A8))
theorem A9n {c:Sc} {H:A6} (hscv:Z9 c H = true) {a0:VaTrain} {r:((List Int) × Int)} (h:A0u a0 = some r) :
  F2 tab c H (.fn (.func 33) [] []) [(.agg (A3 a0))] [(.seq 1 (List.map cI r.1)),.i r.2]:=B4n B5q (C5o (c:=⟨0,[]⟩) (H:=[]) rfl rfl h) (by simp [freeL,AV.free,I9,cI,cB,cS,A65,O7,M4,J0,L2,J5,G9,I4]) (by simp [freeL,AV.free,I9,cI,cB,cS,A65,O7,M4,J0,L2,J5,G9,I4]) hscv
def A5i (a0:VaTrain) (s3:(Int × (List Int))) (s6:Int):Option (Int ⊕ (Unit ⊕ Unit)) :=
 if (decide (s6 < (List.length a0.Vans:Int))) = true then
  (A0y 6 (IArr.l (IArr.zero 6)) s3.1).bind fun x9 =>
  (I5 (van_train.mk a0) (IArr.set (IArr.zero 6) s3.1 (w64 (s6 + 1))) s3.1).bind fun x10 =>
  (if (x10 && (!(IArr.l (IArr.set (IArr.zero 6) s3.1 (w64 (s6 + 1))) == IArr.l (IArr.zero 6)))) = true then
  (P7 (van_train.mk a0) (IArr.set (IArr.zero 6) s3.1 (w64 (s6 + 1))) s3.1).bind fun x13 =>
  some (x13 == 1)
  else
  some false).bind fun x14 =>
  if x14 = true then
  some (.inr (.inl ()))
  else
  some (.inl (w64 (s6 + 1)))
 else
  some (.inr (.inr ()))
def A5j (a0:VaTrain) (s3:(Int × (List Int))):Option ((Int × (List Int)) ⊕ (List Int)) :=
 if (decide (s3.1 < (List.length a0.Crates:Int))) = true then
  (loop (A5i a0 s3) 0).bind fun (o16:(Unit ⊕ Unit)) =>
  match o16 with
  | (.inl vo16_0) =>
  some (.inl ((w64 (s3.1 + 1)),s3.2))
  | (.inr vo16_1) =>
  (app 8 s3.2 [s3.1]).bind fun x18 =>
  some (.inl ((w64 (s3.1 + 1)),x18))
 else
  some (.inr s3.2)
def A5h (a0:VaTrain):Option ((List Int) × Int) :=
 (V8 a0).bind fun x1 =>
 if (x1.2.2 != 0) = true then
  some (([]:List Int),x1.2.2)
 else
  (loop (A5j a0) (0,([]:List Int))).bind fun (o19:(List Int)) =>
  some (o19,0)
theorem A7i {c:Sc} {H:A6} {a0:VaTrain} {r:((List Int) × Int)} (h:A5h a0 = some r) :
  F2 tab c H (.fn (.func 31) [] []) [(.agg (A3 a0))] [(.fresh 1 (List.map cI r.1)),.i r.2]:= by
 unfold A5h at h
 refine cE rfl rfl<|sg 0 rfl<|A0 (G0 (cs:=A3 a0) rfl rfl rfl) rfl<|A0 A5y rfl<|qm rfl<|es (ra2 rfl rfl)<|E1f<|s0<|A0 (C5 rfl rfl rfl) rfl<|V4 (as2:=[(.agg (A3 a0))]) (H1:=(H++[(.cells (A3 a0)),(.arr 1 false (List.map cI ([]:List Int)))])) rfl rfl (A2 (D2 rfl) B4) rfl rfl rfl (A26 rfl)<|sg 2 rfl<|A0 (G0 (cs:=A3 a0) rfl rfl rfl) rfl<|qm rfl<|qm rfl<|es (ra1 rfl)<|B3<|s0<|oB h fun x1 hx1 h=>A0 (C5 rfl rfl rfl) rfl<|B2 (rs:=[.i x1.1,.i x1.2.1,.i x1.2.2]) rfl rfl (A2 (D2 rfl) B4) ((Z5 hx1).frz)<|qm rfl<|A0 (A7 rfl rfl) rfl<|A0 (A7 rfl rfl) rfl<|A0 (A7 rfl rfl) rfl<|qm rfl<|qm rfl<|qm rfl<|es (ra2 rfl rfl)<|s0<|qm rfl<|A0 (F8 rfl rfl) rfl<|es (ra3 rfl rfl rfl)<|wi h rfl (fun hc2 h=>?_) fun hc2 h=>?_
 ·refine s0<|qm rfl<|qm rfl<|qm rfl<|es (ra2 rfl rfl)<|C4<|InlQ.mk trivial ⟨_,_,_,[(.lit (.pointer none)),.i x1.2.2],_,(B1 rfl (B1 rfl B7)),(A5 rfl (A5 rfl B6)),(Z1 (A1 A4 (A1 A4 A8)) (D9 rfl (D9 rfl M5)) (K7 _ _ _)),?_⟩
  refine qm rfl<|A0 (A7 rfl rfl) rfl<|A0 (A7 rfl rfl) rfl<|qm rfl<|qm rfl<|es (ra4 rfl rfl rfl rfl)<|B3<|s0<|qm rfl<|A0 (F8 rfl rfl) rfl<|es (ra5 rfl rfl rfl rfl rfl)<|N0 rfl hc2<|sg 2 rfl<|qm rfl<|A0 A5y rfl<|qm rfl<|es (ra2 rfl rfl)<|C4 ?_
  obtain rfl:=os h
  exact retq trivial (B1 rfl (B1 rfl B7)) (A5 (A6n rfl (List.length_map _)) (A5 rfl B6)) (A1 A0v (A1 A4 A8))
 ·refine C2<|sg 3 rfl<|A0 (C5 rfl rfl rfl) rfl<|A0 A9k rfl<|A0 (N7 (cs:=[(.seq 4 (List.map C0 a0.Vans)),.i a0.Stops,.i a0.Handle,(.seq 4 (List.map A9 a0.Crates)),(.seq 2 (List.map C1 a0.Apart)),(.mp (H.length + 3))]) rfl rfl) rfl<|A0 (G0 (cs:=[(.seq 4 (List.map C0 a0.Vans)),.i a0.Stops,.i a0.Handle,(.seq 4 (List.map A9 a0.Crates)),(.seq 2 (List.map C1 a0.Apart)),(.mp (H.length + 3))]) rfl rfl rfl) rfl<|qm rfl<|qm rfl<|es (ra2 rfl rfl)<|C4<|InlQ.mk trivial ⟨_,_,_,[(.ptr (H.length + 4) 0),.i 0],_,(B1 rfl (B1 rfl B7)),(A5 rfl (A5 rfl B6)),(A24 (U4 (A2z rfl)) (D9 rfl (D9 rfl M5))),?_⟩
  refine qm rfl<|A0 (A7 rfl rfl) rfl<|A0 (A7 rfl rfl) rfl<|qm rfl<|qm rfl<|es (ra4 rfl rfl rfl rfl)<|B3<|s0<|qm rfl<|A0 (J9 (v:=(.b false)) rfl rfl rfl) rfl<|es (ra5 rfl rfl rfl rfl rfl)<|A0c rfl rfl<|C2<|B3<|C2<|B3<|s0<|A0 (C3 rfl) rfl<|A0 (B5 rfl rfl rfl) rfl<|A0 (D3 (f:=A9) rfl) rfl<|qm rfl<|es (ra5 rfl rfl rfl rfl rfl)<|B9<|oB h fun o19 ho19 h=>wl (fun s3=>[(1,(.ptr (H.length + 0) 0)),(2,(.asl (H.length + 1) (List.length s3.2))),(4,(.ptr (H.length + 4) 0)),(18,(.i (List.length a0.Crates:Int))),(19,.i s3.1)]) (fun (q4:Unit) s3=>[(.cells (A3 a0)),(.arr 1 false (List.map cI s3.2)),(.cells (A3 a0)),(.map []),(.cells [(.seq 4 (List.map C0 a0.Vans)),.i a0.Stops,.i a0.Handle,(.seq 4 (List.map A9 a0.Crates)),(.seq 2 (List.map C1 a0.Apart)),(.mp (H.length + 3))])]) 5 (fun r e s' H'=>PX 0 [(2,(.asl (H.length + 1) (List.length r)))] (H++[(.cells (A3 a0)),(.arr 1 false (List.map cI r)),(.cells (A3 a0)),(.map []),(.cells [(.seq 4 (List.map C0 a0.Vans)),.i a0.Stops,.i a0.Handle,(.seq 4 (List.map A9 a0.Crates)),(.seq 2 (List.map C1 a0.Apart)),(.mp (H.length + 3))])]) e s' H') () ho19 rfl rfl (fun _ _=>rfl) (fun _=>rfl) rfl (fun s3=>(bdc (D5 rfl) (bdc (U8 rfl) (bdc (D5 rfl) (bdc A4 (bdc A4 bdn)))))) (fun q4 s3 ys3 hs3=>?_) ?_
  ·unfold A5j at hs3
   refine s0<|A0 (F4 rfl rfl) rfl<|es (ra6 rfl rfl rfl rfl rfl rfl)<|B3<|wi hs3 rfl (fun hc5 hs3=>?_) fun hc5 hs3=>?_
   ·refine C2<|B3<|B9<|s0<|qm rfl<|qm rfl<|es (ra6 rfl rfl rfl rfl rfl rfl)<|B3<|s0<|A0 (C3 rfl) rfl<|A0 (B5 rfl rfl rfl) rfl<|A0 (D3 (f:=C0) rfl) rfl<|qm rfl<|es (ra8 rfl rfl rfl rfl rfl rfl rfl rfl)<|B9<|oB hs3 fun o16 ho16 hs3=>wl (fun s6=>[(1,(.ptr (H.length + 0) 0)),(2,(.asl (H.length + 1) (List.length s3.2))),(4,(.ptr (H.length + 4) 0)),(5,.i s3.1),(18,(.i (List.length a0.Crates:Int))),(19,.i s3.1),(24,(.i (List.length a0.Vans:Int))),(25,.i s6)]) (fun (q7:Unit) s6=>[(.cells (A3 a0)),(.arr 1 false (List.map cI s3.2)),(.cells (A3 a0)),(.map []),(.cells [(.seq 4 (List.map C0 a0.Vans)),.i a0.Stops,.i a0.Handle,(.seq 4 (List.map A9 a0.Crates)),(.seq 2 (List.map C1 a0.Apart)),(.mp (H.length + 3))])]) 5 (fun r e s' H'=>(match r with | (.inl v)=>e = (.exit 1)∧s' = [(1,(.ptr (H.length + 0) 0)),(2,(.asl (H.length + 1) (List.length s3.2))),(4,(.ptr (H.length + 4) 0)),(18,(.i (List.length a0.Crates:Int))),(19,.i s3.1)]∧∃ g,H' = (H++([(.cells (A3 a0)),(.arr 1 false (List.map cI s3.2)),(.cells (A3 a0)),(.map []),(.cells [(.seq 4 (List.map C0 a0.Vans)),.i a0.Stops,.i a0.Handle,(.seq 4 (List.map A9 a0.Crates)),(.seq 2 (List.map C1 a0.Apart)),(.mp (H.length + 3))])]++g)) | (.inr v)=>PX 2 [(1,(.ptr (H.length + 0) 0)),(2,(.asl (H.length + 1) (List.length s3.2))),(4,(.ptr (H.length + 4) 0)),(5,.i s3.1),(18,(.i (List.length a0.Crates:Int))),(19,.i s3.1)] (H++[(.cells (A3 a0)),(.arr 1 false (List.map cI s3.2)),(.cells (A3 a0)),(.map []),(.cells [(.seq 4 (List.map C0 a0.Vans)),.i a0.Stops,.i a0.Handle,(.seq 4 (List.map A9 a0.Crates)),(.seq 2 (List.map C1 a0.Apart)),(.mp (H.length + 3))])]) e s' H':Prop)) () ho16 rfl rfl (fun _ _=>rfl) (fun _=>rfl) rfl (fun s6=>(bdc (D5 rfl) (bdc (U8 rfl) (bdc (D5 rfl) (bdc A4 (bdc A4 (bdc A4 (bdc A4 (bdc A4 bdn))))))))) (fun q7 s6 ys6 hs6=>?_) ?_
    ·unfold A5i at hs6
     refine s0<|A0 (F4 rfl rfl) rfl<|es (ra9 rfl rfl rfl rfl rfl rfl rfl rfl rfl)<|B3<|wi hs6 rfl (fun hc8 hs6=>?_) fun hc8 hs6=>?_
     ·refine C2<|B3<|B9<|s0<|qm rfl<|qm rfl<|es (ra9 rfl rfl rfl rfl rfl rfl rfl rfl rfl)<|sg 5 rfl<|A0 (E6 (zs:=(cA .i64) (IArr.zero 6))) rfl<|es (ra10 rfl rfl rfl rfl rfl rfl rfl rfl rfl rfl)<|s0<|oB hs6 fun x9 hx9 hs6=>qm rfl<|qm rfl<|A0 (D7 rfl rfl) rfl<|A0 (Z4 rfl rfl hx9) rfl<|G6 (A93 rfl rfl rfl hx9) rfl<|es (ra9 rfl rfl rfl rfl rfl rfl rfl rfl rfl)<|s0<|oB hs6 fun x10 hx10 hs6=>oB hs6 fun x14 hx14 hs6=>qm rfl<|A0 (F7 (kk:=.i64) (v:=(IArr.set (IArr.zero 6) s3.1 (w64 (s6 + 1)))) rfl rfl) rfl<|qm rfl<|B2 (rs:=[.b x10]) rfl rfl (A2 rfl (A2 A1b (A2 rfl B4))) ((P2 (F3 rfl) hx10).frz)<|qm rfl<|gp 4 40 (.b (x10 && (!(IArr.l (IArr.set (IArr.zero 6) s3.1 (w64 (s6 + 1))) == IArr.l (IArr.zero 6))))) 36 rfl rfl (fun hg11=>?_) (fun hg11=>?_) ?_
      ·exact gT rfl hg11<|A0 (F7 (kk:=.i64) (v:=(IArr.set (IArr.zero 6) s3.1 (w64 (s6 + 1)))) rfl rfl) rfl<|gT rfl hg11<|A0 (N7 (cs:=(cA .i64) (IArr.zero 6)) rfl rfl) rfl<|gT rfl hg11<|A0 (E0c (kk:=.i64) (n:=6) rfl rfl rfl) rfl<|A0 (C8 rfl hg11 rfl) rfl<|ge 4 (by rw [hg11]; rfl) rfl rfl
      ·exact nT rfl hg11 rfl<|nT rfl hg11 rfl<|nT rfl hg11 rfl<|A0 (C7 rfl hg11 rfl) rfl<|ge 4 (by rw [hg11]; rfl) rfl rfl
      refine qm rfl<|gp 6 47 (.b x14) 41 rfl rfl (fun hg12=>?_) (fun hg12=>?_) ?_
      ·refine oB (bt hx14 hg12) fun x13 hx13 hx14=>?_
       obtain rfl:=os hx14
       exact gT rfl hg12<|qm rfl<|gT rfl hg12<|A0 (F7 (kk:=.i64) (v:=(IArr.set (IArr.zero 6) s3.1 (w64 (s6 + 1)))) rfl rfl) rfl<|gT rfl hg12<|qm rfl<|gT rfl hg12<|B2 (rs:=[.i x13]) rfl rfl (A2 rfl (A2 A1b (A2 rfl B4))) ((A6m (F3 rfl) hx13).frz)<|gT rfl hg12<|A0 (G7 rfl rfl) rfl<|A0 (C8 rfl hg12 rfl) rfl<|ge 6 rfl rfl rfl
      ·obtain rfl:=os (bf hx14 hg12)
       exact nT rfl hg12 rfl<|nT rfl hg12 rfl<|nT rfl hg12 rfl<|H8 (E9 rfl (by rw [hg12]; rfl)) rfl<|nT rfl hg12 rfl<|A0 (C7 rfl hg12 rfl) rfl<|ge 6 rfl rfl rfl
      refine es (ra9 rfl rfl rfl rfl rfl rfl rfl rfl rfl)<|wi hs6 rfl (fun hc15 hs6=>?_) fun hc15 hs6=>?_
      ·refine E3 ?_
       obtain rfl:=os hs6
       exact lx rfl (And.intro rfl (And.intro rfl ⟨[(.cells ((cA .i64) (IArr.set (IArr.zero 6) s3.1 (w64 (s6 + 1)))))],rfl⟩)) (su5 rfl rfl rfl rfl rfl)
      ·refine C2<|r0<|A0 (D7 rfl rfl) rfl<|qm rfl<|en (ra8 rfl rfl rfl rfl rfl rfl rfl rfl) ?_
       cases hs6
       exact lnT () rfl (su8 rfl rfl rfl rfl rfl rfl rfl rfl)
     ·refine E3 ?_
      obtain rfl:=os hs6
      exact lx rfl px (su6 rfl rfl rfl rfl rfl rfl)
    ·rcases o16 with vo16_0 | vo16_1
     ·rintro e s' H' - ⟨rfl,rfl,g17,rfl⟩
      refine r0<|A0 (D7 rfl rfl) rfl<|qm rfl<|en (ra5 rfl rfl rfl rfl rfl) ?_
      cases hs3
      exact lnT () rfl (su5 rfl rfl rfl rfl rfl)
     ·rintro e s' H' - ⟨rfl,rfl,rfl⟩
      refine r0<|oB hs3 fun x18 hx18 hs3=>qm rfl<|qm rfl<|A0 (I8 (rows:=List.map cI [s3.1]) rfl rfl (E4 (fun _=>rfl) _)) rfl<|A35 (W8 (f:=cI) rfl rfl rfl rfl U0 (fun _=>rfl) hx18) rfl<|qm rfl<|en (ra5 rfl rfl rfl rfl rfl)<|r0<|A0 (D7 rfl rfl) rfl<|qm rfl<|en (ra5 rfl rfl rfl rfl rfl) ?_
      cases hs3
      exact lnT () rfl (su5 rfl rfl rfl rfl rfl)
   ·refine E3 ?_
    obtain rfl:=os hs3
    exact lx rfl px (su1 rfl)
  ·rintro e s' H' - ⟨rfl,rfl,rfl⟩
   refine s0<|qm rfl<|qm rfl<|qm rfl<|es (ra2 rfl rfl)<|C4 ?_
   obtain rfl:=os h
   exact retq trivial (B1 rfl (B1 rfl B7)) (A5 (A6n rfl (List.length_map _)) (A5 rfl B6)) (A1 A0v (A1 A4 A8))
end Vn
end
