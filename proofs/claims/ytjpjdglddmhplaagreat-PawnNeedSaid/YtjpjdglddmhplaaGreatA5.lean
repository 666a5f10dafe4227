/- Texts that the claim stands on, one behind another. -/
import Derived.Test.YtjpjdglddmhplaaGreatA4
import Derived.Test.YtjpjdglddmhplaaGreatChecked
import Derived.KernelRfl
set_option linter.unusedVariables false
set_option linter.unusedSimpArgs false
set_option linter.unnecessarySimpa false
open And renaming intro→ZE
open List renaming length_append→Zo,length_map→Zi,length→Zh,map→Zg
section
set_option maxRecDepth 100000
set_option maxHeartbeats 0
namespace Go.Proofs.YtjpjdglddmhplaaGreat
open Go Am Go.Proofs
theorem m8:C4 Tryz.prog Tryz.f8 Cd.a8=true:= by kernel_rfl
theorem m10:C4 Tryz.prog Tryz.f10 Cd.a10=true:= by kernel_rfl
theorem m11:C4 Tryz.prog Tryz.f11 Cd.a11=true:= by kernel_rfl
theorem m12:C4 Tryz.prog Tryz.f12 Cd.a12=true:= by kernel_rfl
theorem m14:C4 Tryz.prog Tryz.f14 Cd.a14=true:= by kernel_rfl
theorem m16:C4 Tryz.prog Tryz.f16 Cd.a16=true:= by kernel_rfl
theorem m18:C4 Tryz.prog Tryz.f18 Cd.a18=true:= by kernel_rfl
theorem m19:C4 Tryz.prog Tryz.f19 Cd.a19=true:= by kernel_rfl
theorem m20:C4 Tryz.prog Tryz.f20 Cd.a20=true:= by kernel_rfl
theorem m22:C4 Tryz.prog Tryz.f22 Cd.a22=true:= by kernel_rfl
theorem m24:C4 Tryz.prog Tryz.f24 Cd.a24=true:= by kernel_rfl
theorem m26:C4 Tryz.prog Tryz.f26 Cd.a26=true:= by kernel_rfl
theorem m27:C4 Tryz.prog Tryz.f27 Cd.a27=true:= by kernel_rfl
theorem m28:C4 Tryz.prog Tryz.f28 Cd.a28=true:= by kernel_rfl
theorem m29:C4 Tryz.prog Tryz.f29 Cd.a29=true:= by kernel_rfl
theorem m31:C4 Tryz.prog Tryz.f31 Cd.a31=true:= by kernel_rfl
theorem m33:C4 Tryz.prog Tryz.f33 Cd.a33=true:= by kernel_rfl
theorem m35:C4 Tryz.prog Tryz.f35 Cd.a35=true:= by kernel_rfl
theorem m36:C4 Tryz.prog Tryz.f36 Cd.a36=true:= by kernel_rfl
theorem m37:C4 Tryz.prog Tryz.f37 Cd.a37=true:= by kernel_rfl
theorem m40:C4 Tryz.prog Tryz.f40 Cd.a40=true:= by kernel_rfl
theorem m41:C4 Tryz.prog Tryz.f41 Cd.a41=true:= by kernel_rfl
theorem m42:C4 Tryz.prog Tryz.f42 Cd.a42=true:= by kernel_rfl
theorem m43:C4 Tryz.prog Tryz.f43 Cd.a43=true:= by kernel_rfl
theorem m44:C4 Tryz.prog Tryz.f44 Cd.a44=true:= by kernel_rfl
theorem m45:C4 Tryz.prog Tryz.f45 Cd.a45=true:= by kernel_rfl
theorem m46:C4 Tryz.prog Tryz.f46 Cd.a46=true:= by kernel_rfl
theorem m47:C4 Tryz.prog Tryz.f47 Cd.a47=true:= by kernel_rfl
theorem m48:C4 Tryz.prog Tryz.f48 Cd.a48=true:= by kernel_rfl
theorem m49:C4 Tryz.prog Tryz.f49 Cd.a49=true:= by kernel_rfl
theorem m50:C4 Tryz.prog Tryz.f50 Cd.a50=true:= by kernel_rfl
theorem m51:C4 Tryz.prog Tryz.f51 Cd.a51=true:= by kernel_rfl
theorem m52:C4 Tryz.prog Tryz.f52 Cd.a52=true:= by kernel_rfl
theorem m54:C4 Tryz.prog Tryz.f54 Cd.a54=true:= by kernel_rfl
theorem m55:C4 Tryz.prog Tryz.f55 Cd.a55=true:= by kernel_rfl
theorem m56:C4 Tryz.prog Tryz.f56 Cd.a56=true:= by kernel_rfl
theorem m57:C4 Tryz.prog Tryz.f57 Cd.a57=true:= by kernel_rfl
theorem m58:C4 Tryz.prog Tryz.f58 Cd.a58=true:= by kernel_rfl
theorem m59:C4 Tryz.prog Tryz.f59 Cd.a59=true:= by kernel_rfl
theorem m60:C4 Tryz.prog Tryz.f60 Cd.a60=true:= by kernel_rfl
theorem m61:C4 Tryz.prog Tryz.f61 Cd.a61=true:= by kernel_rfl
theorem m62:C4 Tryz.prog Tryz.f62 Cd.a62=true:= by kernel_rfl
theorem m63:C4 Tryz.prog Tryz.f63 Cd.a63=true:= by kernel_rfl
theorem m65:C4 Tryz.prog Tryz.f65 Cd.a65=true:= by kernel_rfl
theorem m66:C4 Tryz.prog Tryz.f66 Cd.a66=true:= by kernel_rfl
theorem m67:C4 Tryz.prog Tryz.f67 Cd.a67=true:= by kernel_rfl
theorem m68:C4 Tryz.prog Tryz.f68 Cd.a68=true:= by kernel_rfl
theorem m69:C4 Tryz.prog Tryz.f69 Cd.a69=true:= by kernel_rfl
theorem m70:C4 Tryz.prog Tryz.f70 Cd.a70=true:= by kernel_rfl
theorem m71:C4 Tryz.prog Tryz.f71 Cd.a71=true:= by kernel_rfl
theorem m72:C4 Tryz.prog Tryz.f72 Cd.a72=true:= by kernel_rfl
theorem m73:C4 Tryz.prog Tryz.f73 Cd.a73=true:= by kernel_rfl
theorem m74:C4 Tryz.prog Tryz.f74 Cd.a74=true:= by kernel_rfl
theorem m75:C4 Tryz.prog Tryz.f75 Cd.a75=true:= by kernel_rfl
theorem m76:C4 Tryz.prog Tryz.f76 Cd.a76=true:= by kernel_rfl
theorem m77:C4 Tryz.prog Tryz.f77 Cd.a77=true:= by kernel_rfl
theorem m78:C4 Tryz.prog Tryz.f78 Cd.a78=true:= by kernel_rfl
theorem m81:C4 Tryz.prog Tryz.f81 Cd.a81=true:= by kernel_rfl
theorem m82:C4 Tryz.prog Tryz.f82 Cd.a82=true:= by kernel_rfl
theorem m83:C4 Tryz.prog Tryz.f83 Cd.a83=true:= by kernel_rfl
theorem m84:C4 Tryz.prog Tryz.f84 Cd.a84=true:= by kernel_rfl
theorem m85:C4 Tryz.prog Tryz.f85 Cd.a85=true:= by kernel_rfl
theorem m86:C4 Tryz.prog Tryz.f86 Cd.a86=true:= by kernel_rfl
theorem m87:C4 Tryz.prog Tryz.f87 Cd.a87=true:= by kernel_rfl
theorem m88:C4 Tryz.prog Tryz.f88 Cd.a88=true:= by kernel_rfl
theorem m89:C4 Tryz.prog Tryz.f89 Cd.a89=true:= by kernel_rfl
theorem m90:C4 Tryz.prog Tryz.f90 Cd.a90=true:= by kernel_rfl
theorem m91:C4 Tryz.prog Tryz.f91 Cd.a91=true:= by kernel_rfl
theorem m92:C4 Tryz.prog Tryz.f92 Cd.a92=true:= by kernel_rfl
theorem m93:C4 Tryz.prog Tryz.f93 Cd.a93=true:= by kernel_rfl
theorem m94:C4 Tryz.prog Tryz.f94 Cd.a94=true:= by kernel_rfl
theorem m95:C4 Tryz.prog Tryz.f95 Cd.a95=true:= by kernel_rfl
theorem m96:C4 Tryz.prog Tryz.f96 Cd.a96=true:= by kernel_rfl
theorem m97:C4 Tryz.prog Tryz.f97 Cd.a97=true:= by kernel_rfl
theorem m98:C4 Tryz.prog Tryz.f98 Cd.a98=true:= by kernel_rfl
theorem m99:C4 Tryz.prog Tryz.f99 Cd.a99=true:= by kernel_rfl
theorem m100:C4 Tryz.prog Tryz.f100 Cd.a100=true:= by kernel_rfl
theorem m101:C4 Tryz.prog Tryz.f101 Cd.a101=true:= by kernel_rfl
theorem m102:C4 Tryz.prog Tryz.f102 Cd.a102=true:= by kernel_rfl
theorem m103:C4 Tryz.prog Tryz.f103 Cd.a103=true:= by kernel_rfl
theorem m104:C4 Tryz.prog Tryz.f104 Cd.a104=true:= by kernel_rfl
theorem m105:C4 Tryz.prog Tryz.f105 Cd.a105=true:= by kernel_rfl
theorem m106:C4 Tryz.prog Tryz.f106 Cd.a106=true:= by kernel_rfl
theorem m107:C4 Tryz.prog Tryz.f107 Cd.a107=true:= by kernel_rfl
theorem m108:C4 Tryz.prog Tryz.f108 Cd.a108=true:= by kernel_rfl
theorem m109:C4 Tryz.prog Tryz.f109 Cd.a109=true:= by kernel_rfl
theorem m110:C4 Tryz.prog Tryz.f110 Cd.a110=true:= by kernel_rfl
theorem m111:C4 Tryz.prog Tryz.f111 Cd.a111=true:= by kernel_rfl
theorem m112:C4 Tryz.prog Tryz.f112 Cd.a112=true:= by kernel_rfl
theorem m113:C4 Tryz.prog Tryz.f113 Cd.a113=true:= by kernel_rfl
theorem m114:C4 Tryz.prog Tryz.f114 Cd.a114=true:= by kernel_rfl
theorem m115:C4 Tryz.prog Tryz.f115 Cd.a115=true:= by kernel_rfl
theorem m116:C4 Tryz.prog Tryz.f116 Cd.a116=true:= by kernel_rfl
theorem m117:C4 Tryz.prog Tryz.f117 Cd.a117=true:= by kernel_rfl
theorem m118:C4 Tryz.prog Tryz.f118 Cd.a118=true:= by kernel_rfl
theorem m119:C4 Tryz.prog Tryz.f119 Cd.a119=true:= by kernel_rfl
theorem m120:C4 Tryz.prog Tryz.f120 Cd.a120=true:= by kernel_rfl
theorem m121:C4 Tryz.prog Tryz.f121 Cd.a121=true:= by kernel_rfl
theorem m122:C4 Tryz.prog Tryz.f122 Cd.a122=true:= by kernel_rfl
theorem m123:C4 Tryz.prog Tryz.f123 Cd.a123=true:= by kernel_rfl
theorem m124:C4 Tryz.prog Tryz.f124 Cd.a124=true:= by kernel_rfl
theorem m125:C4 Tryz.prog Tryz.f125 Cd.a125=true:= by kernel_rfl
theorem m126:C4 Tryz.prog Tryz.f126 Cd.a126=true:= by kernel_rfl
theorem m127:C4 Tryz.prog Tryz.f127 Cd.a127=true:= by kernel_rfl
theorem m128:C4 Tryz.prog Tryz.f128 Cd.a128=true:= by kernel_rfl
theorem m129:C4 Tryz.prog Tryz.f129 Cd.a129=true:= by kernel_rfl
theorem m130:C4 Tryz.prog Tryz.f130 Cd.a130=true:= by kernel_rfl
theorem m131:C4 Tryz.prog Tryz.f131 Cd.a131=true:= by kernel_rfl
theorem m132:C4 Tryz.prog Tryz.f132 Cd.a132=true:= by kernel_rfl
theorem m133:C4 Tryz.prog Tryz.f133 Cd.a133=true:= by kernel_rfl
theorem m134:C4 Tryz.prog Tryz.f134 Cd.a134=true:= by kernel_rfl
theorem m135:C4 Tryz.prog Tryz.f135 Cd.a135=true:= by kernel_rfl
theorem m136:C4 Tryz.prog Tryz.f136 Cd.a136=true:= by kernel_rfl
theorem m137:C4 Tryz.prog Tryz.f137 Cd.a137=true:= by kernel_rfl
theorem m138:C4 Tryz.prog Tryz.f138 Cd.a138=true:= by kernel_rfl
theorem E6b:C4j Tryz.prog Cd.tab:= by
 intro i af h
 unfold Cd.tab at h
 split at h
 ·cases h;exact⟨Tryz.f8,Tryz.func8,m8⟩
 ·cases h;exact⟨Tryz.f10,Tryz.func10,m10⟩
 ·cases h;exact⟨Tryz.f11,Tryz.func11,m11⟩
 ·cases h;exact⟨Tryz.f12,Tryz.func12,m12⟩
 ·cases h;exact⟨Tryz.f14,Tryz.func14,m14⟩
 ·cases h;exact⟨Tryz.f16,Tryz.func16,m16⟩
 ·cases h;exact⟨Tryz.f18,Tryz.func18,m18⟩
 ·cases h;exact⟨Tryz.f19,Tryz.func19,m19⟩
 ·cases h;exact⟨Tryz.f20,Tryz.func20,m20⟩
 ·cases h;exact⟨Tryz.f22,Tryz.func22,m22⟩
 ·cases h;exact⟨Tryz.f24,Tryz.func24,m24⟩
 ·cases h;exact⟨Tryz.f26,Tryz.func26,m26⟩
 ·cases h;exact⟨Tryz.f27,Tryz.func27,m27⟩
 ·cases h;exact⟨Tryz.f28,Tryz.func28,m28⟩
 ·cases h;exact⟨Tryz.f29,Tryz.func29,m29⟩
 ·cases h;exact⟨Tryz.f31,Tryz.func31,m31⟩
 ·cases h;exact⟨Tryz.f33,Tryz.func33,m33⟩
 ·cases h;exact⟨Tryz.f35,Tryz.func35,m35⟩
 ·cases h;exact⟨Tryz.f36,Tryz.func36,m36⟩
 ·cases h;exact⟨Tryz.f37,Tryz.func37,m37⟩
 ·cases h;exact⟨Tryz.f40,Tryz.func40,m40⟩
 ·cases h;exact⟨Tryz.f41,Tryz.func41,m41⟩
 ·cases h;exact⟨Tryz.f42,Tryz.func42,m42⟩
 ·cases h;exact⟨Tryz.f43,Tryz.func43,m43⟩
 ·cases h;exact⟨Tryz.f44,Tryz.func44,m44⟩
 ·cases h;exact⟨Tryz.f45,Tryz.func45,m45⟩
 ·cases h;exact⟨Tryz.f46,Tryz.func46,m46⟩
 ·cases h;exact⟨Tryz.f47,Tryz.func47,m47⟩
 ·cases h;exact⟨Tryz.f48,Tryz.func48,m48⟩
 ·cases h;exact⟨Tryz.f49,Tryz.func49,m49⟩
 ·cases h;exact⟨Tryz.f50,Tryz.func50,m50⟩
 ·cases h;exact⟨Tryz.f51,Tryz.func51,m51⟩
 ·cases h;exact⟨Tryz.f52,Tryz.func52,m52⟩
 ·cases h;exact⟨Tryz.f54,Tryz.func54,m54⟩
 ·cases h;exact⟨Tryz.f55,Tryz.func55,m55⟩
 ·cases h;exact⟨Tryz.f56,Tryz.func56,m56⟩
 ·cases h;exact⟨Tryz.f57,Tryz.func57,m57⟩
 ·cases h;exact⟨Tryz.f58,Tryz.func58,m58⟩
 ·cases h;exact⟨Tryz.f59,Tryz.func59,m59⟩
 ·cases h;exact⟨Tryz.f60,Tryz.func60,m60⟩
 ·cases h;exact⟨Tryz.f61,Tryz.func61,m61⟩
 ·cases h;exact⟨Tryz.f62,Tryz.func62,m62⟩
 ·cases h;exact⟨Tryz.f63,Tryz.func63,m63⟩
 ·cases h;exact⟨Tryz.f65,Tryz.func65,m65⟩
 ·cases h;exact⟨Tryz.f66,Tryz.func66,m66⟩
 ·cases h;exact⟨Tryz.f67,Tryz.func67,m67⟩
 ·cases h;exact⟨Tryz.f68,Tryz.func68,m68⟩
 ·cases h;exact⟨Tryz.f69,Tryz.func69,m69⟩
 ·cases h;exact⟨Tryz.f70,Tryz.func70,m70⟩
 ·cases h;exact⟨Tryz.f71,Tryz.func71,m71⟩
 ·cases h;exact⟨Tryz.f72,Tryz.func72,m72⟩
 ·cases h;exact⟨Tryz.f73,Tryz.func73,m73⟩
 ·cases h;exact⟨Tryz.f74,Tryz.func74,m74⟩
 ·cases h;exact⟨Tryz.f75,Tryz.func75,m75⟩
 ·cases h;exact⟨Tryz.f76,Tryz.func76,m76⟩
 ·cases h;exact⟨Tryz.f77,Tryz.func77,m77⟩
 ·cases h;exact⟨Tryz.f78,Tryz.func78,m78⟩
 ·cases h;exact⟨Tryz.f81,Tryz.func81,m81⟩
 ·cases h;exact⟨Tryz.f82,Tryz.func82,m82⟩
 ·cases h;exact⟨Tryz.f83,Tryz.func83,m83⟩
 ·cases h;exact⟨Tryz.f84,Tryz.func84,m84⟩
 ·cases h;exact⟨Tryz.f85,Tryz.func85,m85⟩
 ·cases h;exact⟨Tryz.f86,Tryz.func86,m86⟩
 ·cases h;exact⟨Tryz.f87,Tryz.func87,m87⟩
 ·cases h;exact⟨Tryz.f88,Tryz.func88,m88⟩
 ·cases h;exact⟨Tryz.f89,Tryz.func89,m89⟩
 ·cases h;exact⟨Tryz.f90,Tryz.func90,m90⟩
 ·cases h;exact⟨Tryz.f91,Tryz.func91,m91⟩
 ·cases h;exact⟨Tryz.f92,Tryz.func92,m92⟩
 ·cases h;exact⟨Tryz.f93,Tryz.func93,m93⟩
 ·cases h;exact⟨Tryz.f94,Tryz.func94,m94⟩
 ·cases h;exact⟨Tryz.f95,Tryz.func95,m95⟩
 ·cases h;exact⟨Tryz.f96,Tryz.func96,m96⟩
 ·cases h;exact⟨Tryz.f97,Tryz.func97,m97⟩
 ·cases h;exact⟨Tryz.f98,Tryz.func98,m98⟩
 ·cases h;exact⟨Tryz.f99,Tryz.func99,m99⟩
 ·cases h;exact⟨Tryz.f100,Tryz.func100,m100⟩
 ·cases h;exact⟨Tryz.f101,Tryz.func101,m101⟩
 ·cases h;exact⟨Tryz.f102,Tryz.func102,m102⟩
 ·cases h;exact⟨Tryz.f103,Tryz.func103,m103⟩
 ·cases h;exact⟨Tryz.f104,Tryz.func104,m104⟩
 ·cases h;exact⟨Tryz.f105,Tryz.func105,m105⟩
 ·cases h;exact⟨Tryz.f106,Tryz.func106,m106⟩
 ·cases h;exact⟨Tryz.f107,Tryz.func107,m107⟩
 ·cases h;exact⟨Tryz.f108,Tryz.func108,m108⟩
 ·cases h;exact⟨Tryz.f109,Tryz.func109,m109⟩
 ·cases h;exact⟨Tryz.f110,Tryz.func110,m110⟩
 ·cases h;exact⟨Tryz.f111,Tryz.func111,m111⟩
 ·cases h;exact⟨Tryz.f112,Tryz.func112,m112⟩
 ·cases h;exact⟨Tryz.f113,Tryz.func113,m113⟩
 ·cases h;exact⟨Tryz.f114,Tryz.func114,m114⟩
 ·cases h;exact⟨Tryz.f115,Tryz.func115,m115⟩
 ·cases h;exact⟨Tryz.f116,Tryz.func116,m116⟩
 ·cases h;exact⟨Tryz.f117,Tryz.func117,m117⟩
 ·cases h;exact⟨Tryz.f118,Tryz.func118,m118⟩
 ·cases h;exact⟨Tryz.f119,Tryz.func119,m119⟩
 ·cases h;exact⟨Tryz.f120,Tryz.func120,m120⟩
 ·cases h;exact⟨Tryz.f121,Tryz.func121,m121⟩
 ·cases h;exact⟨Tryz.f122,Tryz.func122,m122⟩
 ·cases h;exact⟨Tryz.f123,Tryz.func123,m123⟩
 ·cases h;exact⟨Tryz.f124,Tryz.func124,m124⟩
 ·cases h;exact⟨Tryz.f125,Tryz.func125,m125⟩
 ·cases h;exact⟨Tryz.f126,Tryz.func126,m126⟩
 ·cases h;exact⟨Tryz.f127,Tryz.func127,m127⟩
 ·cases h;exact⟨Tryz.f128,Tryz.func128,m128⟩
 ·cases h;exact⟨Tryz.f129,Tryz.func129,m129⟩
 ·cases h;exact⟨Tryz.f130,Tryz.func130,m130⟩
 ·cases h;exact⟨Tryz.f131,Tryz.func131,m131⟩
 ·cases h;exact⟨Tryz.f132,Tryz.func132,m132⟩
 ·cases h;exact⟨Tryz.f133,Tryz.func133,m133⟩
 ·cases h;exact⟨Tryz.f134,Tryz.func134,m134⟩
 ·cases h;exact⟨Tryz.f135,Tryz.func135,m135⟩
 ·cases h;exact⟨Tryz.f136,Tryz.func136,m136⟩
 ·cases h;exact⟨Tryz.f137,Tryz.func137,m137⟩
 ·cases h;exact⟨Tryz.f138,Tryz.func138,m138⟩
 ·cases h
end Go.Proofs.YtjpjdglddmhplaaGreat
end
section
set_option maxRecDepth 100000
set_option maxHeartbeats 0
namespace Pw
open Go Am Go.Proofs.YtjpjdglddmhplaaGreat.Cd
structure PaGown where
 mk ::
 (Name:ByteArray)
 (Looks:Int)
 (Pawn:Bool)
 (Loan:Int)
 (Rate:Int)
 (Fee:Int)
 (Ago:Int)
 (Last:Int)
 deriving DecidableEq
def C7 (x:PaGown):List AV:=[.s x.Name,.i x.Looks,.b x.Pawn,.i x.Loan,.i x.Rate,.i x.Fee,.i x.Ago,.i x.Last]
structure PaFigure where
 mk ::
 (Name:ByteArray)
 (Day:Int)
 (Until:Int)
 (Needs:Int)
 deriving DecidableEq
def B7 (x:PaFigure):List AV:=[.s x.Name,.i x.Day,.i x.Until,.i x.Needs]
structure PaIncome where
 mk ::
 (Day:Int)
 (Pence:Int)
 deriving DecidableEq
def D3 (x:PaIncome):List AV:=[.i x.Day,.i x.Pence]
structure PaShow where
 mk ::
 (Gowns:(List PaGown))
 (Figures:(List PaFigure))
 (Purse:Int)
 (Incomes:(List PaIncome))
 deriving DecidableEq
def A9 (x:PaShow):List AV:=[(.seq 8 (Zg C7 x.Gowns)),(.seq 4 (Zg B7 x.Figures)),.i x.Purse,(.seq 2 (Zg D3 x.Incomes))]
structure law04_Asked where
 mk ::
 (Gown:Int)
 (Figure:Int)
 (Day:Int)
 deriving DecidableEq
structure PaUse where
 mk ::
 (Gown:Int)
 (How:Int)
 (Day:Int)
 deriving DecidableEq
def A6 (x:PaUse):List AV:=[.i x.Gown,.i x.How,.i x.Day]
structure pawn_way where
 mk ::
 deriving DecidableEq
structure pawn_show where
 mk ::
 (PaShow:PaShow)
 (ways_:(Ar3 pawn_way))
 (days_:(List Int))
 deriving DecidableEq
structure pawn_found where
 mk ::
 (plan_:(List PaUse))
 (without_:Int)
 (cost_:Int)
 (short_:Int)
 (had_:(Ar3 Int))
 deriving DecidableEq
def C8 (x:pawn_found):List AV:=[(.seq 3 (Zg A6 x.plan_)),.i x.without_,.i x.cost_,.i x.short_,.i x.had_.x0,.i x.had_.x1,.i x.had_.x2]
def A16 (a0:(List ByteArray)) (a1:ByteArray) (s1:Int):Option (Int⊕(Int⊕Unit)) :=
 if (decide (s1<(Zh a0:Int)))=true then
  (idx a0 s1).bind fun x4 =>
  if (eqS x4 a1)=true then
  some (.inr (.inl s1))
  else
  some (.inl (w64 (s1+1)))
 else
  some (.inr (.inr ()))
def A84 (a0:(List ByteArray)) (a1:ByteArray):Option Int :=
 (loop (A16 a0 a1) 0).bind fun (o6:(Int⊕Unit)) =>
 match o6 with
 | (.inl vo6_0) =>
  some vo6_0
 | (.inr vo6_1) =>
  some (-1)
theorem C2i {c:Sc} {H:A2} {a0:(List ByteArray)} {a1:ByteArray} {r:Int} (h:A84 a0 a1=some r) :
  F0 tab c H (.fn (.func 89) [] []) [(.seq 1 (Zg cS a0)),.s a1] [.i r]:= by
 unfold A84 at h
 refine cE Z Z<|s0<|qm Z<|es (ra2 Z Z)<|B9<|s0<|qm Z<|es (ra3 Z Z Z)<|C5<|oB h fun o6 ho6 h=>wl (fun s1=>[(0,(.seq 1 (Zg cS a0))),(1,.s a1),(5,.i s1)]) (fun (q2:Unit) s1=>[]) 0 (fun r e s' H'=>(match r with|(.inl v)=>e=.ret∧RetQ H [.tmp 4] [.i v] e s' H' | (.inr v)=>PX 0 [] (H++[]) e s' H':Prop)) () ho6 Z Z (fun _ _=>rfl) (fun _=>rfl) Z (fun s1=>(bdc G6 (bdc A4 (bdc A4 bdn)))) (fun q2 s1 ys1 hs1=>?_) ?_
 ·unfold A16 at hs1
  refine B9<|s0<|qm Z<|qm Z<|A0 (F2 (f:=cS) Z) Z<|A0 (I3 Z Z) Z<|es (ra4 Z Z Z Z)<|wi hs1 Z (fun hc3 hs1=>?_) fun hc3 hs1=>?_
  ·refine B8<|B9<|C5<|s0<|oB hs1 fun x4 hx4 hs1=>qm Z<|qm Z<|A0 (D4 (f:=cS) Z Z hx4) Z<|A0 (G2 Z Z) Z<|qm Z<|A0 (D6n Z Z) Z<|es (ra4 Z Z Z Z)<|wi hs1 Z (fun hc5 hs1=>?_) fun hc5 hs1=>?_
   ·refine s0<|qm Z<|qm Z<|es (ra1 Z)<|C6 ?_
    obtain rfl:=os hs1
    exact lx Z (ZE Z (retq trivial (A8 Z B6) (A5 Z B5) (A3 A4 B1))) (Sub.refl _)
   ·refine B8<|r0<|qm Z<|A0 (D8 Z Z) Z<|qm Z<|en (ra3 Z Z Z) ?_
    cases hs1
    exact lnT () Z (su3 Z Z Z)
  ·refine G5 ?_
   obtain rfl:=os hs1
   exact lx Z px (.nil _)
 ·rcases o6 with vo6_0|vo6_1
  ·rintro e s' H'-⟨rfl,hret⟩
   cases h
   exact hret
  ·rintro e s' H'-⟨rfl,rfl,rfl⟩
   refine s0<|qm Z<|es (ra1 Z)<|C6 ?_
   obtain rfl:=os h
   exact retq trivial (A8 Z B6) (A5 Z B5) (A3 A4 B1)
def A45 (a0:Int) (a1:Int) (a2:Int):Option Bool :=
 some ((decide (a0≥a1))&&(decide (a0≤a2)))
theorem B1q {c:Sc} {H:A2} {a0:Int} {a1:Int} {a2:Int} {r:Bool} (h:A45 a0 a1 a2=some r) :
  F0 tab c H (.fn (.func 113) [] []) [.i a0,.i a1,.i a2] [.b r]:= by
 unfold A45 at h
 refine cE Z Z<|s0<|qm Z<|es (ra3 Z Z Z)<|s0<|qm Z<|qm Z<|A0 (A8p Z Z) Z<|qm Z<|gp 4 14 (.b ((decide (a0≥a1))&&(decide (a0≤a2)))) 10 Z Z (fun hg1=>?_) (fun hg1=>?_) ?_
 ·exact gT Z hg1<|qm Z<|gT Z hg1<|qm Z<|gT Z hg1<|A0 (A4p Z Z) Z<|A0 (C1 Z hg1 Z) Z<|ge 4 (by rw[hg1];rfl) Z Z
 ·exact nT Z hg1 Z<|nT Z hg1 Z<|nT Z hg1 Z<|A0 (C0 Z hg1 Z) Z<|ge 4 (by rw[hg1];rfl) Z Z
 refine qm Z<|es (ra1 Z)<|C6 ?_
 obtain rfl:=os h
 exact retq trivial (A8 Z B6) (A5 Z B5) (A3 A4 B1)
def A3k (a0:ByteArray) (s3:Int):Option (Int⊕(Bool⊕Unit)) :=
 if (decide (s3<(ByteArray.size a0:Int)))=true then
  (B61 a0 s3).bind fun x6 =>
  (A45 (w64 x6) 97 122).bind fun x7 =>
  (B61 a0 s3).bind fun x8 =>
  (A45 (w64 x8) 48 57).bind fun x9 =>
  (if x9=true then
  some true
  else
  (B61 a0 s3).bind fun x11 =>
  some (x11==46)).bind fun x12 =>
  if ((!x7)&&((s3==0)||(!x12)))=true then
  some (.inr (.inl false))
  else
  some (.inl (w64 (s3+1)))
 else
  some (.inr (.inr ()))
def A77 (a0:ByteArray):Option Bool :=
 if (((ByteArray.size a0:Int)==0)||(decide ((ByteArray.size a0:Int)>16)))=true then
  some false
 else
  (loop (A3k a0) 0).bind fun (o16:(Bool⊕Unit)) =>
  match o16 with
  | (.inl vo16_0) =>
  some vo16_0
  | (.inr vo16_1) =>
  some true
theorem C30 {c:Sc} {H:A2} {a0:ByteArray} {r:Bool} (h:A77 a0=some r) :
  F0 tab c H (.fn (.func 88) [] []) [.s a0] [.b r]:= by
 unfold A77 at h
 refine cE Z Z<|s0<|qm Z<|es (ra1 Z)<|B9<|s0<|qm Z<|A0 (C7e Z) Z<|A0 (F9 Z Z) Z<|qm Z<|gp 4 13 (.b (((ByteArray.size a0:Int)==0)||(decide ((ByteArray.size a0:Int)>16)))) 9 Z Z (fun hg1=>?_) (fun hg1=>?_) ?_
 ·exact nF Z hg1 Z<|nF Z hg1 Z<|nF Z hg1 Z<|A0 (C1 Z hg1 Z) Z<|ge 4 (by rw[hg1];rfl) Z Z
 ·exact gF Z hg1<|qm Z<|gF Z hg1<|A0 (C7e Z) Z<|gF Z hg1<|A0 (W0 Z Z) Z<|A0 (C0 Z hg1 Z) Z<|ge 4 (by rw[hg1];rfl) Z Z
 refine es (ra2 Z Z)<|wi h Z (fun hc2 h=>?_) fun hc2 h=>?_
 ·refine s0<|qm Z<|es (ra1 Z)<|C6 ?_
  obtain rfl:=os h
  exact retq trivial (A8 Z B6) (A5 Z B5) (A3 A4 B1)
 ·refine B8<|B9<|s0<|qm Z<|es (ra2 Z Z)<|C5<|oB h fun o16 ho16 h=>wl (fun s3=>[(0,.s a0),(3,.i s3)]) (fun (q4:Unit) s3=>[]) 0 (fun r e s' H'=>(match r with|(.inl v)=>e=.ret∧RetQ H [.tmp 2] [.b v] e s' H' | (.inr v)=>PX 0 [] (H++[]) e s' H':Prop)) () ho16 Z Z (fun _ _=>rfl) (fun _=>rfl) Z (fun s3=>(bdc A4 (bdc A4 bdn))) (fun q4 s3 ys3 hs3=>?_) ?_
  ·unfold A3k at hs3
   refine B9<|s0<|qm Z<|qm Z<|A0 (C7e Z) Z<|A0 (I3 Z Z) Z<|es (ra3 Z Z Z)<|wi hs3 Z (fun hc5 hs3=>?_) fun hc5 hs3=>?_
   ·refine B8<|B9<|C5<|s0<|oB hs3 fun x6 hx6 hs3=>oB hs3 fun x7 hx7 hs3=>qm Z<|qm Z<|A0 (B2i Z Z hx6) Z<|A0 (A9j Z) Z<|B2 (rs:=[.b x7]) Z Z (A1 Z (A1 Z (A1 Z B3))) ((B1q hx7).frz)<|qm Z<|es (ra3 Z Z Z)<|s0<|oB hs3 fun x8 hx8 hs3=>oB hs3 fun x9 hx9 hs3=>oB hs3 fun x12 hx12 hs3=>qm Z<|qm Z<|A0 (B2i Z Z hx8) Z<|A0 (A9j Z) Z<|B2 (rs:=[.b x9]) Z Z (A1 Z (A1 Z (A1 Z B3))) ((B1q hx9).frz)<|qm Z<|gp 5 35 (.b x12) 30 Z Z (fun hg10=>?_) (fun hg10=>?_) ?_
    ·obtain rfl:=os (bt hx12 hg10)
     exact nF Z hg10 Z<|nF Z hg10 Z<|nF Z hg10 Z<|nF Z hg10 Z<|A0 (C1 Z hg10 Z) Z<|ge 5 Z Z Z
    ·refine oB (bf hx12 hg10) fun x11 hx11 hx12=>?_
     obtain rfl:=os hx12
     exact gF Z hg10<|qm Z<|gF Z hg10<|qm Z<|gF Z hg10<|A0 (B2i Z Z hx11) Z<|gF Z hg10<|A0 (F9 Z Z) Z<|A0 (C0 Z hg10 Z) Z<|ge 5 Z Z Z
    refine qm Z<|es (ra4 Z Z Z Z)<|s0<|qm Z<|A0 (M9 Z) Z<|qm Z<|gp 7 45 (.b ((!x7)&&((s3==0)||(!x12)))) 38 Z Z (fun hg13=>?_) (fun hg13=>?_) ?_
    ·refine gT Z hg13<|qm Z<|gT Z hg13<|A0 (F9 Z Z) Z<|gT Z hg13<|qm Z<|gq 3 44 (.b ((s3==0)||(!x12))) 41 Z Z (fun hg14=>?_) (fun hg14=>?_) ?_
     ·exact nF Z hg14 Z<|nF Z hg14 Z<|gT Z hg13<|A0 (C1 Z hg14 Z) Z<|ge 3 (by rw[hg14];rfl) Z Z
     ·exact gF Z hg14<|qm Z<|gF Z hg14<|A0 (M9 Z) Z<|gT Z hg13<|A0 (C0 Z hg14 Z) Z<|ge 3 (by rw[hg14];rfl) Z Z
     exact A0 (C1 Z hg13 Z) Z<|ge 5 (by rw[hg13];rfl) Z Z
    ·exact nT Z hg13 Z<|nT Z hg13 Z<|nT Z hg13 Z<|nX Z Z<|nX Z Z<|nT Z hg13 Z<|A0 (C0 Z hg13 Z) Z<|ge 7 (by rw[hg13];rfl) Z Z
    refine es (ra3 Z Z Z)<|wi hs3 Z (fun hc15 hs3=>?_) fun hc15 hs3=>?_
    ·refine s0<|qm Z<|es (ra1 Z)<|C6 ?_
     obtain rfl:=os hs3
     exact lx Z (ZE Z (retq trivial (A8 Z B6) (A5 Z B5) (A3 A4 B1))) (Sub.refl _)
    ·refine B8<|r0<|qm Z<|A0 (D8 Z Z) Z<|qm Z<|en (ra2 Z Z) ?_
     cases hs3
     exact lnT () Z (su2 Z Z)
   ·refine G5 ?_
    obtain rfl:=os hs3
    exact lx Z px (.nil _)
  ·rcases o16 with vo16_0|vo16_1
   ·rintro e s' H'-⟨rfl,hret⟩
    cases h
    exact hret
   ·rintro e s' H'-⟨rfl,rfl,rfl⟩
    refine s0<|qm Z<|es (ra1 Z)<|C6 ?_
    obtain rfl:=os h
    exact retq trivial (A8 Z B6) (A5 Z B5) (A3 A4 B1)
def A7n (a0:ByteArray) (a1:(List ByteArray)):Option Int :=
 (A77 a0).bind fun x1 =>
 if (!x1)=true then
  some 6
 else
  (A84 a1 a0).bind fun x3 =>
  if (decide (x3≥0))=true then
  some 5
  else
  some 0
theorem B6d {c:Sc} {H:A2} {a0:ByteArray} {a1:(List ByteArray)} {r:Int} (h:A7n a0 a1=some r) :
  F0 tab c H (.fn (.func 47) [] []) [.s a0,(.seq 1 (Zg cS a1))] [.i r]:= by
 unfold A7n at h
 refine cE Z Z<|s0<|qm Z<|es (ra2 Z Z)<|B9<|s0<|oB h fun x1 hx1 h=>qm Z<|B2 (rs:=[.b x1]) Z Z (A1 Z B3) ((C30 hx1).frz)<|A0 (M9 Z) Z<|es (ra3 Z Z Z)<|wi h Z (fun hc2 h=>?_) fun hc2 h=>?_
 ·refine s0<|qm Z<|es (ra1 Z)<|C6 ?_
  obtain rfl:=os h
  exact retq trivial (A8 Z B6) (A5 Z B5) (A3 A4 B1)
 ·refine B8<|B9<|s0<|oB h fun x3 hx3 h=>qm Z<|qm Z<|B2 (rs:=[.i x3]) Z Z (A1 Z (A1 Z B3)) ((C2i hx3).frz)<|A0 (A8p Z Z) Z<|es (ra1 Z)<|wi h Z (fun hc4 h=>?_) fun hc4 h=>?_
  ·refine s0<|qm Z<|es (ra1 Z)<|C6 ?_
   obtain rfl:=os h
   exact retq trivial (A8 Z B6) (A5 Z B5) (A3 A4 B1)
  ·refine B8<|s0<|qm Z<|es (ra1 Z)<|C6 ?_
   obtain rfl:=os h
   exact retq trivial (A8 Z B6) (A5 Z B5) (A3 A4 B1)
def N7 (a0:Int) (a1:Int) (a2:Int):Option Bool :=
 some ((decide (a0≥a1))&&(decide (a0≤a2)))
theorem L2 {c:Sc} {H:A2} {a0:Int} {a1:Int} {a2:Int} {r:Bool} (h:N7 a0 a1 a2=some r) :
  F0 tab c H (.fn (.func 50) [] []) [.i a0,.i a1,.i a2] [.b r]:= by
 unfold N7 at h
 refine cE Z Z<|s0<|qm Z<|es (ra3 Z Z Z)<|s0<|qm Z<|qm Z<|A0 (A8p Z Z) Z<|qm Z<|gp 4 14 (.b ((decide (a0≥a1))&&(decide (a0≤a2)))) 10 Z Z (fun hg1=>?_) (fun hg1=>?_) ?_
 ·exact gT Z hg1<|qm Z<|gT Z hg1<|qm Z<|gT Z hg1<|A0 (A4p Z Z) Z<|A0 (C1 Z hg1 Z) Z<|ge 4 (by rw[hg1];rfl) Z Z
 ·exact nT Z hg1 Z<|nT Z hg1 Z<|nT Z hg1 Z<|A0 (C0 Z hg1 Z) Z<|ge 4 (by rw[hg1];rfl) Z Z
 refine qm Z<|es (ra1 Z)<|C6 ?_
 obtain rfl:=os h
 exact retq trivial (A8 Z B6) (A5 Z B5) (A3 A4 B1)
def A5a (a0:PaFigure):Option Int :=
 (N7 a0.Day 0 364).bind fun x1 =>
 (if (!x1)=true then
  some true
 else
  (N7 a0.Until 0 364).bind fun x3 =>
  some (!x3)).bind fun x4 =>
 (if x4=true then
  some true
 else
  (N7 a0.Needs 0 15).bind fun x6 =>
  some (!x6)).bind fun x7 =>
 if x7=true then
  some 7
 else
  if (decide (a0.Day>a0.Until))=true then
  some 2
  else
  some 0
theorem B95 {c:Sc} {H:A2} {a0:PaFigure} {r:Int} (h:A5a a0=some r) :
  F0 tab c H (.fn (.func 49) [] []) [(.agg (B7 a0))] [.i r]:= by
 unfold A5a at h
 refine cE Z Z<|sg 0 Z<|A0 (G1 (cs:=B7 a0) Z Z Z) Z<|qm Z<|es (ra1 Z)<|B9<|s0<|oB h fun x1 hx1 h=>oB h fun x4 hx4 h=>oB h fun x7 hx7 h=>A0 (C3 Z) Z<|A0 (B4 Z Z Z) Z<|B2 (rs:=[.b x1]) Z Z (A1 Z (A1 Z (A1 Z B3))) ((L2 hx1).frz)<|A0 (M9 Z) Z<|qm Z<|gp 5 12 (.b x4) 7 Z Z (fun hg2=>?_) (fun hg2=>?_) ?_
 ·obtain rfl:=os (bt hx4 hg2)
  exact nF Z hg2 Z<|nF Z hg2 Z<|G4 (D2 Z (by rw[hg2];rfl)) Z<|nF Z hg2 Z<|A0 (C1 Z hg2 Z) Z<|ge 5 Z Z Z
 ·refine oB (bf hx4 hg2) fun x3 hx3 hx4=>?_
  obtain rfl:=os hx4
  exact gF Z hg2<|A0 (C3 Z) Z<|gF Z hg2<|A0 (B4 Z Z Z) Z<|gF Z hg2<|B2 (rs:=[.b x3]) Z Z (A1 Z (A1 Z (A1 Z B3))) ((L2 hx3).frz)<|gF Z hg2<|A0 (M9 Z) Z<|A0 (C0 Z hg2 Z) Z<|ge 5 Z Z Z
 refine qm Z<|gp 5 18 (.b x7) 13 Z Z (fun hg5=>?_) (fun hg5=>?_) ?_
 ·obtain rfl:=os (bt hx7 hg5)
  exact nF Z hg5 Z<|nF Z hg5 Z<|G4 (D2 Z (by rw[hg5];rfl)) Z<|nF Z hg5 Z<|A0 (C1 Z hg5 Z) Z<|ge 5 Z Z Z
 ·refine oB (bf hx7 hg5) fun x6 hx6 hx7=>?_
  obtain rfl:=os hx7
  exact gF Z hg5<|A0 (C3 Z) Z<|gF Z hg5<|A0 (B4 Z Z Z) Z<|gF Z hg5<|B2 (rs:=[.b x6]) Z Z (A1 Z (A1 Z (A1 Z B3))) ((L2 hx6).frz)<|gF Z hg5<|A0 (M9 Z) Z<|A0 (C0 Z hg5 Z) Z<|ge 5 Z Z Z
 refine es (ra2 Z Z)<|wi h Z (fun hc8 h=>?_) fun hc8 h=>?_
 ·refine s0<|qm Z<|es (ra1 Z)<|C6 ?_
  obtain rfl:=os h
  exact retq trivial (A8 Z B6) (A5 Z B5) (A3 A4 B1)
 ·refine B8<|B9<|s0<|A0 (C3 Z) Z<|A0 (B4 Z Z Z) Z<|A0 (C3 Z) Z<|A0 (B4 Z Z Z) Z<|A0 (W0 Z Z) Z<|es (ra1 Z)<|wi h Z (fun hc9 h=>?_) fun hc9 h=>?_
  ·refine s0<|qm Z<|es (ra1 Z)<|C6 ?_
   obtain rfl:=os h
   exact retq trivial (A8 Z B6) (A5 Z B5) (A3 A4 B1)
  ·refine B8<|s0<|qm Z<|es (ra1 Z)<|C6 ?_
   obtain rfl:=os h
   exact retq trivial (A8 Z B6) (A5 Z B5) (A3 A4 B1)
def A8c (a0:PaGown):Option Bool :=
 (N7 a0.Looks 0 15).bind fun x1 =>
 if (!x1)=true then
  some false
 else
  if (!a0.Pawn)=true then
  some (((((a0.Loan==0)&&(a0.Rate==0))&&(a0.Fee==0))&&(a0.Ago==0))&&(a0.Last==0))
  else
  (N7 a0.Loan 0 5000).bind fun x8 =>
  (if x8=true then
   (N7 a0.Rate 0 500).bind fun x10 =>
   some x10
  else
   some false).bind fun x11 =>
  (if x11=true then
   (N7 a0.Fee 0 100).bind fun x13 =>
   some x13
  else
   some false).bind fun x14 =>
  (if x14=true then
   (N7 a0.Ago 0 364).bind fun x16 =>
   some x16
  else
   some false).bind fun x17 =>
  (if x17=true then
   (N7 a0.Last 0 364).bind fun x19 =>
   some x19
  else
   some false).bind fun x20 =>
  some x20
theorem C35 {c:Sc} {H:A2} {a0:PaGown} {r:Bool} (h:A8c a0=some r) :
  F0 tab c H (.fn (.func 48) [] []) [(.agg (C7 a0))] [.b r]:= by
 unfold A8c at h
 refine cE Z Z<|sg 0 Z<|A0 (G1 (cs:=C7 a0) Z Z Z) Z<|qm Z<|es (ra1 Z)<|B9<|s0<|oB h fun x1 hx1 h=>A0 (C3 Z) Z<|A0 (B4 Z Z Z) Z<|B2 (rs:=[.b x1]) Z Z (A1 Z (A1 Z (A1 Z B3))) ((L2 hx1).frz)<|A0 (M9 Z) Z<|es (ra2 Z Z)<|wi h Z (fun hc2 h=>?_) fun hc2 h=>?_
 ·refine s0<|qm Z<|es (ra1 Z)<|C6 ?_
  obtain rfl:=os h
  exact retq trivial (A8 Z B6) (A5 Z B5) (A3 A4 B1)
 ·refine B8<|B9<|s0<|A0 (C3 Z) Z<|A0 (B4 Z Z Z) Z<|A0 (M9 Z) Z<|es (ra2 Z Z)<|wi h Z (fun hc3 h=>?_) fun hc3 h=>?_
  ·refine s0<|A0 (C3 Z) Z<|A0 (B4 Z Z Z) Z<|A0 (F9 Z Z) Z<|qm Z<|gp 4 17 (.b ((a0.Loan==0)&&(a0.Rate==0))) 13 Z Z (fun hg4=>?_) (fun hg4=>?_) ?_
   ·exact gT Z hg4<|A0 (C3 Z) Z<|gT Z hg4<|A0 (B4 Z Z Z) Z<|gT Z hg4<|A0 (F9 Z Z) Z<|A0 (C1 Z hg4 Z) Z<|ge 4 (by rw[hg4];rfl) Z Z
   ·exact nT Z hg4 Z<|nT Z hg4 Z<|nT Z hg4 Z<|A0 (C0 Z hg4 Z) Z<|ge 4 (by rw[hg4];rfl) Z Z
   refine qm Z<|gp 4 22 (.b (((a0.Loan==0)&&(a0.Rate==0))&&(a0.Fee==0))) 18 Z Z (fun hg5=>?_) (fun hg5=>?_) ?_
   ·exact gT Z hg5<|A0 (C3 Z) Z<|gT Z hg5<|A0 (B4 Z Z Z) Z<|gT Z hg5<|A0 (F9 Z Z) Z<|A0 (C1 Z hg5 Z) Z<|ge 4 (by rw[hg5];rfl) Z Z
   ·exact nT Z hg5 Z<|nT Z hg5 Z<|nT Z hg5 Z<|A0 (C0 Z hg5 Z) Z<|ge 4 (by rw[hg5];rfl) Z Z
   refine qm Z<|gp 4 27 (.b ((((a0.Loan==0)&&(a0.Rate==0))&&(a0.Fee==0))&&(a0.Ago==0))) 23 Z Z (fun hg6=>?_) (fun hg6=>?_) ?_
   ·exact gT Z hg6<|A0 (C3 Z) Z<|gT Z hg6<|A0 (B4 Z Z Z) Z<|gT Z hg6<|A0 (F9 Z Z) Z<|A0 (C1 Z hg6 Z) Z<|ge 4 (by rw[hg6];rfl) Z Z
   ·exact nT Z hg6 Z<|nT Z hg6 Z<|nT Z hg6 Z<|A0 (C0 Z hg6 Z) Z<|ge 4 (by rw[hg6];rfl) Z Z
   refine qm Z<|gp 4 32 (.b (((((a0.Loan==0)&&(a0.Rate==0))&&(a0.Fee==0))&&(a0.Ago==0))&&(a0.Last==0))) 28 Z Z (fun hg7=>?_) (fun hg7=>?_) ?_
   ·exact gT Z hg7<|A0 (C3 Z) Z<|gT Z hg7<|A0 (B4 Z Z Z) Z<|gT Z hg7<|A0 (F9 Z Z) Z<|A0 (C1 Z hg7 Z) Z<|ge 4 (by rw[hg7];rfl) Z Z
   ·exact nT Z hg7 Z<|nT Z hg7 Z<|nT Z hg7 Z<|A0 (C0 Z hg7 Z) Z<|ge 4 (by rw[hg7];rfl) Z Z
   refine qm Z<|es (ra1 Z)<|C6 ?_
   obtain rfl:=os h
   exact retq trivial (A8 Z B6) (A5 Z B5) (A3 A4 B1)
  ·refine B8<|s0<|oB h fun x8 hx8 h=>oB h fun x11 hx11 h=>oB h fun x14 hx14 h=>oB h fun x17 hx17 h=>oB h fun x20 hx20 h=>A0 (C3 Z) Z<|A0 (B4 Z Z Z) Z<|B2 (rs:=[.b x8]) Z Z (A1 Z (A1 Z (A1 Z B3))) ((L2 hx8).frz)<|qm Z<|gp 4 40 (.b x11) 36 Z Z (fun hg9=>?_) (fun hg9=>?_) ?_
   ·refine oB (bt hx11 hg9) fun x10 hx10 hx11=>?_
    obtain rfl:=os hx11
    exact gT Z hg9<|A0 (C3 Z) Z<|gT Z hg9<|A0 (B4 Z Z Z) Z<|gT Z hg9<|B2 (rs:=[.b x10]) Z Z (A1 Z (A1 Z (A1 Z B3))) ((L2 hx10).frz)<|A0 (C1 Z hg9 Z) Z<|ge 4 Z Z Z
   ·obtain rfl:=os (bf hx11 hg9)
    exact nT Z hg9 Z<|nT Z hg9 Z<|G4 (D2 Z (by rw[hg9];rfl)) Z<|A0 (C0 Z hg9 Z) Z<|ge 4 Z Z Z
   refine qm Z<|gp 4 45 (.b x14) 41 Z Z (fun hg12=>?_) (fun hg12=>?_) ?_
   ·refine oB (bt hx14 hg12) fun x13 hx13 hx14=>?_
    obtain rfl:=os hx14
    exact gT Z hg12<|A0 (C3 Z) Z<|gT Z hg12<|A0 (B4 Z Z Z) Z<|gT Z hg12<|B2 (rs:=[.b x13]) Z Z (A1 Z (A1 Z (A1 Z B3))) ((L2 hx13).frz)<|A0 (C1 Z hg12 Z) Z<|ge 4 Z Z Z
   ·obtain rfl:=os (bf hx14 hg12)
    exact nT Z hg12 Z<|nT Z hg12 Z<|G4 (D2 Z (by rw[hg12];rfl)) Z<|A0 (C0 Z hg12 Z) Z<|ge 4 Z Z Z
   refine qm Z<|gp 4 50 (.b x17) 46 Z Z (fun hg15=>?_) (fun hg15=>?_) ?_
   ·refine oB (bt hx17 hg15) fun x16 hx16 hx17=>?_
    obtain rfl:=os hx17
    exact gT Z hg15<|A0 (C3 Z) Z<|gT Z hg15<|A0 (B4 Z Z Z) Z<|gT Z hg15<|B2 (rs:=[.b x16]) Z Z (A1 Z (A1 Z (A1 Z B3))) ((L2 hx16).frz)<|A0 (C1 Z hg15 Z) Z<|ge 4 Z Z Z
   ·obtain rfl:=os (bf hx17 hg15)
    exact nT Z hg15 Z<|nT Z hg15 Z<|G4 (D2 Z (by rw[hg15];rfl)) Z<|A0 (C0 Z hg15 Z) Z<|ge 4 Z Z Z
   refine qm Z<|gp 4 55 (.b x20) 51 Z Z (fun hg18=>?_) (fun hg18=>?_) ?_
   ·refine oB (bt hx20 hg18) fun x19 hx19 hx20=>?_
    obtain rfl:=os hx20
    exact gT Z hg18<|A0 (C3 Z) Z<|gT Z hg18<|A0 (B4 Z Z Z) Z<|gT Z hg18<|B2 (rs:=[.b x19]) Z Z (A1 Z (A1 Z (A1 Z B3))) ((L2 hx19).frz)<|A0 (C1 Z hg18 Z) Z<|ge 4 Z Z Z
   ·obtain rfl:=os (bf hx20 hg18)
    exact nT Z hg18 Z<|nT Z hg18 Z<|G4 (D2 Z (by rw[hg18];rfl)) Z<|A0 (C0 Z hg18 Z) Z<|ge 4 Z Z Z
   refine qm Z<|es (ra1 Z)<|C6 ?_
   obtain rfl:=os h
   exact retq trivial (A8 Z B6) (A5 Z B5) (A3 A4 B1)
def A18 (a0:PaShow) (s2:(Int×(List ByteArray))):Option ((Int×(List ByteArray))⊕((Int×Int×Int)⊕(List ByteArray))) :=
 if (decide (s2.1<(Zh a0.Gowns:Int)))=true then
  (idx a0.Gowns s2.1).bind fun x5 =>
  (A7n x5.Name s2.2).bind fun x6 =>
  (idx a0.Gowns s2.1).bind fun x7 =>
  (app 16 s2.2 [x7.Name]).bind fun x8 =>
  (if (x6==0)=true then
  (idx a0.Gowns s2.1).bind fun x10 =>
  (A8c x10).bind fun x11 =>
  some (!x11)
  else
  some false).bind fun x12 =>
  if x12=true then
  some (.inr (.inl (1,s2.1,7)))
  else
  if (x6 != 0)=true then
   some (.inr (.inl (1,s2.1,x6)))
  else
   some (.inl ((w64 (s2.1+1)),x8))
 else
  some (.inr (.inr s2.2))
def A19 (a0:PaShow) (s18:(Int×(List ByteArray))):Option ((Int×(List ByteArray))⊕((Int×Int×Int)⊕(List ByteArray))) :=
 if (decide (s18.1<(Zh a0.Figures:Int)))=true then
  (idx a0.Figures s18.1).bind fun x21 =>
  (A7n x21.Name s18.2).bind fun x22 =>
  (idx a0.Figures s18.1).bind fun x23 =>
  (app 16 s18.2 [x23.Name]).bind fun x24 =>
  if (x22==0)=true then
  (idx a0.Figures s18.1).bind fun x26 =>
  (A5a x26).bind fun x27 =>
  if (x27 != 0)=true then
   some (.inr (.inl (2,s18.1,x27)))
  else
   some (.inl ((w64 (s18.1+1)),x24))
  else
  if (x22 != 0)=true then
   some (.inr (.inl (2,s18.1,x22)))
  else
   some (.inl ((w64 (s18.1+1)),x24))
 else
  some (.inr (.inr s18.2))
def A2a (a0:PaShow) (s35:Int):Option (Int⊕((Int×Int×Int)⊕Unit)) :=
 if (decide (s35<(Zh a0.Incomes:Int)))=true then
  (idx a0.Incomes s35).bind fun x38 =>
  (N7 x38.Day 0 364).bind fun x39 =>
  (if (!x39)=true then
  some true
  else
  (idx a0.Incomes s35).bind fun x41 =>
  (N7 x41.Pence 0 10000).bind fun x42 =>
  some (!x42)).bind fun x43 =>
  if x43=true then
  some (.inr (.inl (4,s35,7)))
  else
  some (.inl (w64 (s35+1)))
 else
  some (.inr (.inr ()))
def V7 (a0:PaShow):Option (Int×Int×Int) :=
 if (decide ((Zh a0.Gowns:Int)>5))=true then
  some (1,0,3)
 else
  (loop (A18 a0) (0,([]:List ByteArray))).bind fun (o15:((Int×Int×Int)⊕(List ByteArray))) =>
  match o15 with
  | (.inl vo15_0) =>
  some vo15_0
  | (.inr vo15_1) =>
  if (decide ((Zh a0.Figures:Int)>3))=true then
   some (2,0,3)
  else
   (loop (A19 a0) (0,([]:List ByteArray))).bind fun (o30:((Int×Int×Int)⊕(List ByteArray))) =>
   match o30 with
   | (.inl vo30_0) =>
   some vo30_0
   | (.inr vo30_1) =>
   (N7 a0.Purse 0 10000).bind fun x32 =>
   if (!x32)=true then
    some (3,0,7)
   else
    if (decide ((Zh a0.Incomes:Int)>3))=true then
    some (4,0,3)
    else
    (loop (A2a a0) 0).bind fun (o45:((Int×Int×Int)⊕Unit)) =>
    match o45 with
    | (.inl vo45_0) =>
     some vo45_0
    | (.inr vo45_1) =>
     some (0,0,0)
theorem A0h {c:Sc} {H:A2} {a0:PaShow} {r:(Int×Int×Int)} (h:V7 a0=some r) :
  F0 tab c H (.fn (.func 11) [] []) [(.agg (A9 a0))] [.i r.1,.i r.2.1,.i r.2.2]:= by
 unfold V7 at h
 refine cE Z Z<|sg 0 Z<|A0 (G1 (cs:=A9 a0) Z Z Z) Z<|qm Z<|qm Z<|qm Z<|es (ra1 Z)<|B9<|s0<|A0 (C3 Z) Z<|A0 (B4 Z Z Z) Z<|A0 (F2 (f:=C7) Z) Z<|A0 (W0 Z Z) Z<|es (ra2 Z Z)<|wi h Z (fun hc1 h=>?_) fun hc1 h=>?_
 ·refine s0<|qm Z<|qm Z<|qm Z<|es (ra3 Z Z Z)<|C6 ?_
  obtain rfl:=os h
  exact retq trivial (A8 Z (A8 Z (A8 Z B6))) (A5 Z (A5 Z (A5 Z B5))) (A3 A4 (A3 A4 (A3 A4 B1)))
 ·refine B8<|sg 1 Z<|A0 A5d Z<|es (ra2 Z Z)<|B9<|s0<|qm Z<|es (ra3 Z Z Z)<|C5<|oB h fun o15 ho15 h=>wl (fun s2=>[(1,(.ptr (H.length+0) 0)),(5,(.asl (H.length+1) (Zh s2.2))),(6,.i s2.1)]) (fun (q3:Bool) s2=>[(.cells (A9 a0)),(.arr 1 q3 (Zg cS s2.2))]) 2 (fun r e s' H'=>(match r with|(.inl v)=>e=.ret∧RetQ H [.tmp 2,.tmp 3,.tmp 4] [.i v.1,.i v.2.1,.i v.2.2] e s' H' | (.inr v)=>e=(.exit 0)∧s'=[(1,(.ptr (H.length+0) 0))]∧∃ (q0q:Bool),H'=(H++[(.cells (A9 a0)),(.arr 1 q0q (Zg cS v))]):Prop)) false ho15 Z Z (fun _ _=>rfl) (fun _=>rfl) Z (fun s2=>(bdc (J7 Z) (bdc (R3 Z) (bdc A4 bdn)))) (fun q3 s2 ys2 hs2=>?_) ?_
  ·unfold A18 at hs2
   refine B9<|s0<|qm Z<|A0 (C3 Z) Z<|A0 (B4 Z Z Z) Z<|A0 (F2 (f:=C7) Z) Z<|A0 (I3 Z Z) Z<|es (ra4 Z Z Z Z)<|wi hs2 Z (fun hc4 hs2=>?_) fun hc4 hs2=>?_
   ·refine B8<|B9<|C5<|s0<|oB hs2 fun x5 hx5 hs2=>oB hs2 fun x6 hx6 hs2=>A0 (C3 Z) Z<|A0 (B4 Z Z Z) Z<|qm Z<|A0 (D4 (f:=C7) Z Z hx5) Z<|A0 (R1 (ds:=(C7 x5)) Z Z) Z<|A0 (G2 Z Z) Z<|qm Z<|B2 (rs:=[.i x6]) Z Z (A1 Z (A1 (B4p Z (Zi _)) B3)) ((B6d hx6).frz)<|qm Z<|es (ra4 Z Z Z Z)<|s0<|oB hs2 fun x7 hx7 hs2=>oB hs2 fun x8 hx8 hs2=>qm Z<|A0 (C3 Z) Z<|A0 (B4 Z Z Z) Z<|qm Z<|A0 (D4 (f:=C7) Z Z hx7) Z<|A0 (R1 (ds:=(C7 x7)) Z Z) Z<|A0 (G2 Z Z) Z<|A0 (J2 (rows:=Zg cS [x7.Name]) Z Z (D9 (fun _=>rfl) _)) Z<|O7 (A0u (f:=cS) Z Z Z Z X8 (fun _=>rfl) hx8) Z<|qm Z<|es (ra4 Z Z Z Z)<|B9<|s0<|oB hs2 fun x12 hx12 hs2=>qm Z<|A0 (F9 Z Z) Z<|qm Z<|gp 8 49 (.b x12) 41 Z Z (fun hg9=>?_) (fun hg9=>?_) ?_
    ·refine oB (bt hx12 hg9) fun x10 hx10 hx12=>oB hx12 fun x11 hx11 hx12=>?_
     obtain rfl:=os hx12
     exact gT Z hg9<|A0 (C3 Z) Z<|gT Z hg9<|A0 (B4 Z Z Z) Z<|gT Z hg9<|qm Z<|gT Z hg9<|A0 (D4 (f:=C7) Z Z hx10) Z<|gT Z hg9<|A0 (I0 Z Z) Z<|gT Z hg9<|B2 (rs:=[.b x11]) Z Z (A1 (D0 Z) B3) ((C35 hx11).frz)<|gT Z hg9<|A0 (M9 Z) Z<|A0 (C1 Z hg9 Z) Z<|ge 8 Z Z Z
    ·obtain rfl:=os (bf hx12 hg9)
     exact nT Z hg9 Z<|nT Z hg9 Z<|nT Z hg9 Z<|nT Z hg9 Z<|nT Z hg9 Z<|G4 (D2 Z (by rw[hg9];rfl)) Z<|nT Z hg9 Z<|A0 (C0 Z hg9 Z) Z<|ge 8 Z Z Z
    refine es (ra5 Z Z Z Z Z)<|wi hs2 Z (fun hc13 hs2=>?_) fun hc13 hs2=>?_
    ·refine r0<|qm Z<|en (ra4 Z Z Z Z)<|s0<|qm Z<|A0 (R8 (v:=(.b true)) Z Z Z) Z<|es (ra5 Z Z Z Z Z)<|Q5 Z Z<|s0<|qm Z<|qm Z<|qm Z<|qm Z<|qm Z<|es (ra3 Z Z Z)<|C6 ?_
     obtain rfl:=os hs2
     exact lx Z (ZE Z (retq trivial (A8 Z (A8 Z (A8 Z B6))) (A5 Z (A5 Z (A5 Z B5))) (A3 A4 (A3 A4 (A3 A4 B1))))) (Sub.refl _)
    ·refine B8<|s0<|qm Z<|A0 (H9 Z Z) Z<|es (ra5 Z Z Z Z Z)<|wi hs2 Z (fun hc14 hs2=>?_) fun hc14 hs2=>?_
     ·refine s0<|qm Z<|qm Z<|qm Z<|qm Z<|qm Z<|es (ra3 Z Z Z)<|C6 ?_
      obtain rfl:=os hs2
      exact lx Z (ZE Z (retq trivial (A8 Z (A8 Z (A8 Z B6))) (A5 Z (A5 Z (A5 Z B5))) (A3 A4 (A3 A4 (A3 A4 B1))))) (Sub.refl _)
     ·refine B8<|r0<|qm Z<|A0 (D8 Z Z) Z<|qm Z<|en (ra3 Z Z Z) ?_
      cases hs2
      exact lnT true Z (su3 Z Z Z)
   ·refine G5 ?_
    obtain rfl:=os hs2
    exact lx Z (ZE Z (ZE Z ⟨q3,Z⟩)) (su1 Z)
  ·rcases o15 with vo15_0|vo15_1
   ·rintro e s' H'-⟨rfl,hret⟩
    cases h
    exact hret
   ·rintro e s' H'-⟨rfl,rfl,q16,rfl⟩
    refine B9<|s0<|A0 (C3 Z) Z<|A0 (B4 Z Z Z) Z<|A0 (F2 (f:=B7) Z) Z<|A0 (W0 Z Z) Z<|es (ra2 Z Z)<|wi h Z (fun hc17 h=>?_) fun hc17 h=>?_
    ·refine s0<|qm Z<|qm Z<|qm Z<|es (ra3 Z Z Z)<|C6 ?_
     obtain rfl:=os h
     exact retq trivial (A8 Z (A8 Z (A8 Z B6))) (A5 Z (A5 Z (A5 Z B5))) (A3 A4 (A3 A4 (A3 A4 B1)))
    ·refine B8<|sg 2 Z<|A0 A5d Z<|es (ra2 Z Z)<|B9<|s0<|qm Z<|es (ra3 Z Z Z)<|C5<|oB h fun o30 ho30 h=>wl (fun s18=>[(1,(.ptr (H.length+0) 0)),(5,(.asl (H.length+2) (Zh s18.2))),(8,.i s18.1)]) (fun (q19:Bool) s18=>[(.cells (A9 a0)),(.arr 1 q16 (Zg cS vo15_1)),(.arr 1 q19 (Zg cS s18.2))]) 3 (fun r e s' H'=>(match r with|(.inl v)=>e=.ret∧RetQ H [.tmp 2,.tmp 3,.tmp 4] [.i v.1,.i v.2.1,.i v.2.2] e s' H' | (.inr v)=>e=(.exit 2)∧s'=[(1,(.ptr (H.length+0) 0))]∧∃ (q0q:Bool),H'=(H++[(.cells (A9 a0)),(.arr 1 q16 (Zg cS vo15_1)),(.arr 1 q0q (Zg cS v))]):Prop)) false ho30 Z Z (fun _ _=>rfl) (fun _=>rfl) Z (fun s18=>(bdc (J7 Z) (bdc (R3 Z) (bdc A4 bdn)))) (fun q19 s18 ys18 hs18=>?_) ?_
     ·unfold A19 at hs18
      refine B9<|s0<|qm Z<|A0 (C3 Z) Z<|A0 (B4 Z Z Z) Z<|A0 (F2 (f:=B7) Z) Z<|A0 (I3 Z Z) Z<|es (ra4 Z Z Z Z)<|wi hs18 Z (fun hc20 hs18=>?_) fun hc20 hs18=>?_
      ·refine B8<|B9<|C5<|s0<|oB hs18 fun x21 hx21 hs18=>oB hs18 fun x22 hx22 hs18=>A0 (C3 Z) Z<|A0 (B4 Z Z Z) Z<|qm Z<|A0 (D4 (f:=B7) Z Z hx21) Z<|A0 (R1 (ds:=(B7 x21)) Z Z) Z<|A0 (G2 Z Z) Z<|qm Z<|B2 (rs:=[.i x22]) Z Z (A1 Z (A1 (B4p Z (Zi _)) B3)) ((B6d hx22).frz)<|qm Z<|es (ra4 Z Z Z Z)<|s0<|oB hs18 fun x23 hx23 hs18=>oB hs18 fun x24 hx24 hs18=>qm Z<|A0 (C3 Z) Z<|A0 (B4 Z Z Z) Z<|qm Z<|A0 (D4 (f:=B7) Z Z hx23) Z<|A0 (R1 (ds:=(B7 x23)) Z Z) Z<|A0 (G2 Z Z) Z<|A0 (J2 (rows:=Zg cS [x23.Name]) Z Z (D9 (fun _=>rfl) _)) Z<|O7 (A0u (f:=cS) Z Z Z Z X8 (fun _=>rfl) hx24) Z<|qm Z<|es (ra4 Z Z Z Z)<|B9<|s0<|qm Z<|A0 (F9 Z Z) Z<|es (ra5 Z Z Z Z Z)<|wi hs18 Z (fun hc25 hs18=>?_) fun hc25 hs18=>?_
       ·refine r0<|oB hs18 fun x26 hx26 hs18=>oB hs18 fun x27 hx27 hs18=>A0 (C3 Z) Z<|A0 (B4 Z Z Z) Z<|qm Z<|A0 (D4 (f:=B7) Z Z hx26) Z<|A0 (I0 Z Z) Z<|B2 (rs:=[.i x27]) Z Z (A1 (D0 Z) B3) ((B95 hx27).frz)<|qm Z<|en (ra4 Z Z Z Z)<|s0<|qm Z<|A0 (H9 Z Z) Z<|es (ra5 Z Z Z Z Z)<|wi hs18 Z (fun hc28 hs18=>?_) fun hc28 hs18=>?_
        ·refine s0<|qm Z<|qm Z<|qm Z<|qm Z<|qm Z<|es (ra3 Z Z Z)<|C6 ?_
         obtain rfl:=os hs18
         exact lx Z (ZE Z (retq trivial (A8 Z (A8 Z (A8 Z B6))) (A5 Z (A5 Z (A5 Z B5))) (A3 A4 (A3 A4 (A3 A4 B1))))) (Sub.refl _)
        ·refine B8<|r0<|qm Z<|A0 (D8 Z Z) Z<|qm Z<|en (ra3 Z Z Z) ?_
         cases hs18
         exact lnT true Z (su3 Z Z Z)
       ·refine B8<|s0<|qm Z<|A0 (H9 Z Z) Z<|es (ra5 Z Z Z Z Z)<|wi hs18 Z (fun hc29 hs18=>?_) fun hc29 hs18=>?_
        ·refine s0<|qm Z<|qm Z<|qm Z<|qm Z<|qm Z<|es (ra3 Z Z Z)<|C6 ?_
         obtain rfl:=os hs18
         exact lx Z (ZE Z (retq trivial (A8 Z (A8 Z (A8 Z B6))) (A5 Z (A5 Z (A5 Z B5))) (A3 A4 (A3 A4 (A3 A4 B1))))) (Sub.refl _)
        ·refine B8<|r0<|qm Z<|A0 (D8 Z Z) Z<|qm Z<|en (ra3 Z Z Z) ?_
         cases hs18
         exact lnT true Z (su3 Z Z Z)
      ·refine G5 ?_
       obtain rfl:=os hs18
       exact lx Z (ZE Z (ZE Z ⟨q19,Z⟩)) (su1 Z)
     ·rcases o30 with vo30_0|vo30_1
      ·rintro e s' H'-⟨rfl,hret⟩
       cases h
       exact hret
      ·rintro e s' H'-⟨rfl,rfl,q31,rfl⟩
       refine B9<|s0<|oB h fun x32 hx32 h=>A0 (C3 Z) Z<|A0 (B4 Z Z Z) Z<|B2 (rs:=[.b x32]) Z Z (A1 Z (A1 Z (A1 Z B3))) ((L2 hx32).frz)<|A0 (M9 Z) Z<|es (ra2 Z Z)<|wi h Z (fun hc33 h=>?_) fun hc33 h=>?_
       ·refine s0<|qm Z<|qm Z<|qm Z<|es (ra3 Z Z Z)<|C6 ?_
        obtain rfl:=os h
        exact retq trivial (A8 Z (A8 Z (A8 Z B6))) (A5 Z (A5 Z (A5 Z B5))) (A3 A4 (A3 A4 (A3 A4 B1)))
       ·refine B8<|B9<|s0<|A0 (C3 Z) Z<|A0 (B4 Z Z Z) Z<|A0 (F2 (f:=D3) Z) Z<|A0 (W0 Z Z) Z<|es (ra2 Z Z)<|wi h Z (fun hc34 h=>?_) fun hc34 h=>?_
        ·refine s0<|qm Z<|qm Z<|qm Z<|es (ra3 Z Z Z)<|C6 ?_
         obtain rfl:=os h
         exact retq trivial (A8 Z (A8 Z (A8 Z B6))) (A5 Z (A5 Z (A5 Z B5))) (A3 A4 (A3 A4 (A3 A4 B1)))
        ·refine B8<|B9<|s0<|qm Z<|es (ra2 Z Z)<|C5<|oB h fun o45 ho45 h=>wl (fun s35=>[(1,(.ptr (H.length+0) 0)),(10,.i s35)]) (fun (q36:Unit) s35=>[(.cells (A9 a0)),(.arr 1 q16 (Zg cS vo15_1)),(.arr 1 q31 (Zg cS vo30_1))]) 3 (fun r e s' H'=>(match r with|(.inl v)=>e=.ret∧RetQ H [.tmp 2,.tmp 3,.tmp 4] [.i v.1,.i v.2.1,.i v.2.2] e s' H' | (.inr v)=>PX 4 [] (H++[(.cells (A9 a0)),(.arr 1 q16 (Zg cS vo15_1)),(.arr 1 q31 (Zg cS vo30_1))]) e s' H':Prop)) () ho45 Z Z (fun _ _=>rfl) (fun _=>rfl) Z (fun s35=>(bdc (J7 Z) (bdc A4 bdn))) (fun q36 s35 ys35 hs35=>?_) ?_
         ·unfold A2a at hs35
          refine B9<|s0<|qm Z<|A0 (C3 Z) Z<|A0 (B4 Z Z Z) Z<|A0 (F2 (f:=D3) Z) Z<|A0 (I3 Z Z) Z<|es (ra3 Z Z Z)<|wi hs35 Z (fun hc37 hs35=>?_) fun hc37 hs35=>?_
          ·refine B8<|B9<|C5<|s0<|oB hs35 fun x38 hx38 hs35=>oB hs35 fun x39 hx39 hs35=>oB hs35 fun x43 hx43 hs35=>A0 (C3 Z) Z<|A0 (B4 Z Z Z) Z<|qm Z<|A0 (D4 (f:=D3) Z Z hx38) Z<|A0 (R1 (ds:=(D3 x38)) Z Z) Z<|A0 (G2 Z Z) Z<|B2 (rs:=[.b x39]) Z Z (A1 Z (A1 Z (A1 Z B3))) ((L2 hx39).frz)<|A0 (M9 Z) Z<|qm Z<|gp 9 126 (.b x43) 117 Z Z (fun hg40=>?_) (fun hg40=>?_) ?_
           ·obtain rfl:=os (bt hx43 hg40)
            exact nF Z hg40 Z<|nF Z hg40 Z<|nF Z hg40 Z<|nF Z hg40 Z<|nF Z hg40 Z<|nF Z hg40 Z<|G4 (D2 Z (by rw[hg40];rfl)) Z<|nF Z hg40 Z<|A0 (C1 Z hg40 Z) Z<|ge 9 Z Z Z
           ·refine oB (bf hx43 hg40) fun x41 hx41 hx43=>oB hx43 fun x42 hx42 hx43=>?_
            obtain rfl:=os hx43
            exact gF Z hg40<|A0 (C3 Z) Z<|gF Z hg40<|A0 (B4 Z Z Z) Z<|gF Z hg40<|qm Z<|gF Z hg40<|A0 (D4 (f:=D3) Z Z hx41) Z<|gF Z hg40<|A0 (R1 (ds:=(List.drop 1 (D3 x41))) Z Z) Z<|gF Z hg40<|A0 (G2 Z Z) Z<|gF Z hg40<|B2 (rs:=[.b x42]) Z Z (A1 Z (A1 Z (A1 Z B3))) ((L2 hx42).frz)<|gF Z hg40<|A0 (M9 Z) Z<|A0 (C0 Z hg40 Z) Z<|ge 9 Z Z Z
           refine es (ra3 Z Z Z)<|wi hs35 Z (fun hc44 hs35=>?_) fun hc44 hs35=>?_
           ·refine s0<|qm Z<|qm Z<|qm Z<|qm Z<|es (ra3 Z Z Z)<|C6 ?_
            obtain rfl:=os hs35
            exact lx Z (ZE Z (retq trivial (A8 Z (A8 Z (A8 Z B6))) (A5 Z (A5 Z (A5 Z B5))) (A3 A4 (A3 A4 (A3 A4 B1))))) (Sub.refl _)
           ·refine B8<|r0<|qm Z<|A0 (D8 Z Z) Z<|qm Z<|en (ra2 Z Z) ?_
            cases hs35
            exact lnT () Z (su2 Z Z)
          ·refine G5 ?_
           obtain rfl:=os hs35
           exact lx Z px (.nil _)
         ·rcases o45 with vo45_0|vo45_1
          ·rintro e s' H'-⟨rfl,hret⟩
           cases h
           exact hret
          ·rintro e s' H'-⟨rfl,rfl,rfl⟩
           refine s0<|qm Z<|qm Z<|qm Z<|es (ra3 Z Z Z)<|C6 ?_
           obtain rfl:=os h
           exact retq trivial (A8 Z (A8 Z (A8 Z B6))) (A5 Z (A5 Z (A5 Z B5))) (A3 A4 (A3 A4 (A3 A4 B1)))
def A2q (a0:PaGown):Option ByteArray :=
 some a0.Name
theorem B9v {c:Sc} {H:A2} {a0:PaGown} {r:ByteArray} (h:A2q a0=some r) :
  F0 tab c H (.fn (.func 42) [] []) [(.agg (C7 a0))] [.s r]:= by
 unfold A2q at h
 refine cE Z Z<|sg 0 Z<|A0 (G1 (cs:=C7 a0) Z Z Z) Z<|qm Z<|es (ra1 Z)<|s0<|A0 (C3 Z) Z<|A0 (B4 Z Z Z) Z<|qm Z<|es (ra1 Z)<|C6 ?_
 obtain rfl:=os h
 exact retq trivial (A8 Z B6) (A5 Z B5) (A3 A4 B1)
def A2r (a0:PaFigure):Option ByteArray :=
 some a0.Name
theorem B9w {c:Sc} {H:A2} {a0:PaFigure} {r:ByteArray} (h:A2r a0=some r) :
  F0 tab c H (.fn (.func 45) [] []) [(.agg (B7 a0))] [.s r]:= by
 unfold A2r at h
 refine cE Z Z<|sg 0 Z<|A0 (G1 (cs:=B7 a0) Z Z Z) Z<|qm Z<|es (ra1 Z)<|s0<|A0 (C3 Z) Z<|A0 (B4 Z Z Z) Z<|qm Z<|es (ra1 Z)<|C6 ?_
 obtain rfl:=os h
 exact retq trivial (A8 Z B6) (A5 Z B5) (A3 A4 B1)
def A3b (a0:ByteArray) (s1:Nat):Option (Nat⊕(Bool⊕Nat)) :=
 if (decide (s1<ByteArray.size a0))=true then
  if ((!((decide (97≤((Utf8.decode a0 s1).1:Int)))&&(decide (((Utf8.decode a0 s1).1:Int)≤122))))&&(((s1:Int)==0)||((((Utf8.decode a0 s1).1:Int) != 46)&&((decide (((Utf8.decode a0 s1).1:Int)<48))||(decide (((Utf8.decode a0 s1).1:Int)>57))))))=true then
  some (.inr (.inl false))
  else
  some (.inl (s1+(Utf8.decode a0 s1).2))
 else
  some (.inr (.inr s1))
def A5p (a0:ByteArray):Option Bool :=
 (loop (A3b a0) (0:Nat)).bind fun (o10:(Bool⊕Nat)) =>
 match o10 with
 | (.inl vo10_0) =>
  some vo10_0
 | (.inr vo10_1) =>
  some ((!eqS a0 (ByteArray.mk #[]))&&(decide ((ByteArray.size a0:Int)≤16)))
theorem B4d {c:Sc} {H:A2} {a0:ByteArray} {r:Bool} (h:A5p a0=some r) :
  F0 tab c H (.fn (.func 81) [] []) [.s a0] [.b r]:= by
 unfold A5p at h
 refine cE Z Z<|s0<|qm Z<|es (ra1 Z)<|B9<|sg 0 Z<|qm Z<|A0 (E1b Z) Z<|es (ra2 Z Z)<|C5<|oB h fun o10 ho10 h=>wl (fun s1=>[(0,.s a0),(7,(.itr (H.length+0)))]) (fun (q2:Unit) s1=>[.iter a0 s1]) 1 (fun r e s' H'=>(match r with|(.inl v)=>e=.ret∧RetQ H [.tmp 2] [.b v] e s' H' | (.inr v)=>PX 0 [(0,.s a0)] (H++[.iter a0 v]) e s' H':Prop)) () ho10 Z Z (fun _ _=>rfl) (fun _=>rfl) Z (fun s1=>(bdc A4 (bdc (E2j Z) bdn))) (fun q2 s1 ys1 hs1=>?_) ?_
 ·unfold A3b at hs1
  by_cases hc3:(decide (s1<ByteArray.size a0))=true
  ·rw[if_pos hc3]at hs1
   refine s0<|O7 (E1a Z Z (of_decide_eq_true hc3)) Z<|A0 (A7 Z Z) Z<|es (ra4 Z Z Z Z)<|B9<|Q5 Z Z<|B8<|C5<|s0<|A0 (A7 Z Z) Z<|A0 (A7 Z Z) Z<|qm Z<|qm Z<|es (ra4 Z Z Z Z)<|s0<|qm Z<|A0 (A4p Z Z) Z<|qm Z<|gp 3 17 (.b ((decide (97≤((Utf8.decode a0 s1).1:Int)))&&(decide (((Utf8.decode a0 s1).1:Int)≤122)))) 14 Z Z (fun hg4=>?_) (fun hg4=>?_) ?_
   ·exact gT Z hg4<|qm Z<|gT Z hg4<|A0 (A4p Z Z) Z<|A0 (C1 Z hg4 Z) Z<|ge 3 (by rw[hg4];rfl) Z Z
   ·exact nT Z hg4 Z<|nT Z hg4 Z<|A0 (C0 Z hg4 Z) Z<|ge 3 (by rw[hg4];rfl) Z Z
   refine qm Z<|es (ra5 Z Z Z Z Z)<|s0<|qm Z<|A0 (M9 Z) Z<|qm Z<|gp 15 35 (.b ((!((decide (97≤((Utf8.decode a0 s1).1:Int)))&&(decide (((Utf8.decode a0 s1).1:Int)≤122))))&&(((s1:Int)==0)||((((Utf8.decode a0 s1).1:Int) != 46)&&((decide (((Utf8.decode a0 s1).1:Int)<48))||(decide (((Utf8.decode a0 s1).1:Int)>57))))))) 20 Z Z (fun hg5=>?_) (fun hg5=>?_) ?_
   ·refine gT Z hg5<|qm Z<|gT Z hg5<|A0 (F9 Z Z) Z<|gT Z hg5<|qm Z<|gq 11 34 (.b (((s1:Int)==0)||((((Utf8.decode a0 s1).1:Int) != 46)&&((decide (((Utf8.decode a0 s1).1:Int)<48))||(decide (((Utf8.decode a0 s1).1:Int)>57)))))) 23 Z Z (fun hg6=>?_) (fun hg6=>?_) ?_
    ·exact nF Z hg6 Z<|nF Z hg6 Z<|nF Z hg6 Z<|nX Z Z<|nX Z Z<|nX Z Z<|nX Z Z<|nX Z Z<|nX Z Z<|nF Z hg6 Z<|gT Z hg5<|A0 (C1 Z hg6 Z) Z<|ge 11 (by rw[hg6];rfl) Z Z
    ·refine gF Z hg6<|qm Z<|gF Z hg6<|A0 (H9 Z Z) Z<|gF Z hg6<|qm Z<|gq 7 33 (.b ((((Utf8.decode a0 s1).1:Int) != 46)&&((decide (((Utf8.decode a0 s1).1:Int)<48))||(decide (((Utf8.decode a0 s1).1:Int)>57))))) 26 Z Z (fun hg7=>?_) (fun hg7=>?_) ?_
     ·refine gT Z hg7<|qm Z<|gT Z hg7<|A0 (I3 Z Z) Z<|gT Z hg7<|qm Z<|gq 3 32 (.b ((decide (((Utf8.decode a0 s1).1:Int)<48))||(decide (((Utf8.decode a0 s1).1:Int)>57)))) 29 Z Z (fun hg8=>?_) (fun hg8=>?_) ?_
      ·exact nF Z hg8 Z<|nF Z hg8 Z<|gT Z hg7<|A0 (C1 Z hg8 Z) Z<|ge 3 (by rw[hg8];rfl) Z Z
      ·exact gF Z hg8<|qm Z<|gF Z hg8<|A0 (W0 Z Z) Z<|gT Z hg7<|A0 (C0 Z hg8 Z) Z<|ge 3 (by rw[hg8];rfl) Z Z
      exact gF Z hg6<|A0 (C1 Z hg7 Z) Z<|ge 5 (by rw[hg7];rfl) Z Z
     ·exact nT Z hg7 Z<|nT Z hg7 Z<|nT Z hg7 Z<|nX Z Z<|nX Z Z<|nT Z hg7 Z<|gF Z hg6<|A0 (C0 Z hg7 Z) Z<|ge 7 (by rw[hg7];rfl) Z Z
     exact gT Z hg5<|A0 (C0 Z hg6 Z) Z<|ge 5 (by rw[hg6];rfl) Z Z
    exact A0 (C1 Z hg5 Z) Z<|ge 5 (by rw[hg5];rfl) Z Z
   ·exact nT Z hg5 Z<|nT Z hg5 Z<|nT Z hg5 Z<|nX Z Z<|nX Z Z<|nX Z Z<|nX Z Z<|nX Z Z<|nX Z Z<|nX Z Z<|nX Z Z<|nX Z Z<|nX Z Z<|nT Z hg5 Z<|A0 (C0 Z hg5 Z) Z<|ge 15 (by rw[hg5];rfl) Z Z
   refine es (ra3 Z Z Z)<|wi hs1 Z (fun hc9 hs1=>?_) fun hc9 hs1=>?_
   ·refine s0<|qm Z<|es (ra1 Z)<|C6 ?_
    obtain rfl:=os hs1
    exact lx Z (ZE Z (retq trivial (A8 Z B6) (A5 Z B5) (A3 A4 B1))) (Sub.refl _)
   ·refine B8 ?_
    cases hs1
    exact lnT () Z (su2 Z Z)
  ·rw[if_neg hc3]at hs1
   refine s0<|O7 (E09 Z Z (fun hn=>hc3 (decide_eq_true hn))) Z<|A0 (A7 Z Z) Z<|es (ra4 Z Z Z Z)<|B9<|T0 Z Z<|G5 ?_
   obtain rfl:=os hs1
   exact lx Z px (su1 Z)
 ·rcases o10 with vo10_0|vo10_1
  ·rintro e s' H'-⟨rfl,hret⟩
   cases h
   exact hret
  ·rintro e s' H'-⟨rfl,rfl,rfl⟩
   refine s0<|qm Z<|A0 (E4r Z Z) Z<|qm Z<|gp 4 42 (.b ((!eqS a0 (ByteArray.mk #[]))&&(decide ((ByteArray.size a0:Int)≤16)))) 38 Z Z (fun hg11=>?_) (fun hg11=>?_) ?_
   ·exact gT Z hg11<|qm Z<|gT Z hg11<|A0 (C7e Z) Z<|gT Z hg11<|A0 (A4p Z Z) Z<|A0 (C1 Z hg11 Z) Z<|ge 4 (by rw[hg11];rfl) Z Z
   ·exact nT Z hg11 Z<|nT Z hg11 Z<|nT Z hg11 Z<|A0 (C0 Z hg11 Z) Z<|ge 4 (by rw[hg11];rfl) Z Z
   refine qm Z<|es (ra1 Z)<|C6 ?_
   obtain rfl:=os h
   exact retq trivial (A8 Z B6) (A5 Z B5) (A3 A4 B1)
def O8 (a0:PaFigure) (g1:(PaFigure→Option ByteArray)) (a2:(List PaFigure)) (a3:Int):Option Bool :=
 (g1 a0).bind fun x1 =>
 (idx a2 a3).bind fun x2 =>
 (g1 x2).bind fun x3 =>
 some (eqS x1 x3)
theorem A6y {c:Sc} {H:A2} {a0:PaFigure} {g1:PaFigure→Option ByteArray} {g1_i:Nat} {g1_f g1_c:List AV} (g1_h:Impl tab H g1_i g1_f g1_c g1 (fun y=>[(.agg (B7 y))]) (fun y=>[.s y])) {b1:Nat} (hb1:hcells H b1=some [.fn (.func g1_i) g1_f g1_c]) {a2:(List PaFigure)} {b2:Nat} (hb2:hcells H b2=some ((cL 4 B7) a2)) {a3:Int} {b3:Nat} (hb3:hcells H b3=some (cI a3)) {r:Bool} (h:O8 a0 g1 a2 a3=some r) :
  F0 tab c H (.fn (.func 85) [] []) [(.agg (B7 a0)),.ptr b1 0,.ptr b2 0,.ptr b3 0] [.b r]:= by
 unfold O8 at h
 refine cE Z Z<|sg 0 Z<|A0 (G1 (cs:=B7 a0) Z Z Z) Z<|qm Z<|es (ra4 Z Z Z Z)<|s0<|oB h fun x1 hx1 h=>oB h fun x2 hx2 h=>oB h fun x3 hx3 h=>A0 (I6 (x:=(.fn (.func g1_i) g1_f g1_c)) Z hb1 Z) Z<|A0 (C9 Z Z Z) Z<|T3 (rs:=[.s x1]) Z Z (R5 Z A0j) (A1 (D0 Z) B3) (Impl.callP g1_h hx1 _)<|A0 (I6 (x:=(.fn (.func g1_i) g1_f g1_c)) Z hb1 Z) Z<|A0 (I6 Z hb2 Z) Z<|A0 (I6 Z hb3 Z) Z<|A0 (D4 (f:=B7) Z Z hx2) Z<|A0 (I0 Z Z) Z<|B2 (rs:=[.s x3]) Z Z (A1 (D0 Z) B3) (Impl.call g1_h hx3 _)<|A0 (D6n Z Z) Z<|qm Z<|es (ra1 Z)<|C6 ?_
 obtain rfl:=os h
 exact retq trivial (A8 Z B6) (A5 Z B5) (A3 A4 B1)
def L9 (a0:(List PaFigure)) (g1:(PaFigure→Option Bool)) (s1:Int):Option (Int⊕(Int⊕Unit)) :=
 if (decide (s1<(Zh a0:Int)))=true then
  (idx a0 s1).bind fun x4 =>
  (g1 x4).bind fun x5 =>
  if x5=true then
  some (.inr (.inl s1))
  else
  some (.inl (w64 (s1+1)))
 else
  some (.inr (.inr ()))
def M5 (a0:(List PaFigure)) (g1:(PaFigure→Option Bool)):Option Int :=
 (loop (L9 a0 g1) 0).bind fun (o7:(Int⊕Unit)) =>
 match o7 with
 | (.inl vo7_0) =>
  some vo7_0
 | (.inr vo7_1) =>
  some (-1)
theorem A0e {c:Sc} {H:A2} {a0:(List PaFigure)} {g1:PaFigure→Option Bool} {g1_i:Nat} {g1_f g1_c:List AV} (g1_h:Impl tab H g1_i g1_f g1_c g1 (fun y=>[(.agg (B7 y))]) (fun y=>[.b y])) {r:Int} (h:M5 a0 g1=some r) :
  F0 tab c H (.fn (.func 111) [] []) [(.seq 4 (Zg B7 a0)),.fn (.func g1_i) g1_f g1_c] [.i r]:= by
 unfold M5 at h
 refine cE Z Z<|s0<|qm Z<|es (ra2 Z Z)<|B9<|s0<|qm Z<|A0 (F2 (f:=B7) Z) Z<|qm Z<|es (ra4 Z Z Z Z)<|C5<|oB h fun o7 ho7 h=>wl (fun s1=>[(0,(.seq 4 (Zg B7 a0))),(1,(.fn (.func g1_i) g1_f g1_c)),(7,(.i (Zh a0:Int))),(8,.i s1)]) (fun (q2:Unit) s1=>[]) 0 (fun r e s' H'=>(match r with|(.inl v)=>e=.ret∧RetQ H [.tmp 4] [.i v] e s' H' | (.inr v)=>PX 0 [] (H++[]) e s' H':Prop)) () ho7 Z Z (fun _ _=>rfl) (fun _=>rfl) Z (fun s1=>(bdc G6 (bdc (C79 g1_h.1) (bdc A4 (bdc A4 bdn))))) (fun q2 s1 ys1 hs1=>?_) ?_
 ·unfold L9 at hs1
  refine s0<|A0 (I3 Z Z) Z<|es (ra5 Z Z Z Z Z)<|B9<|wi hs1 Z (fun hc3 hs1=>?_) fun hc3 hs1=>?_
  ·refine B8<|B9<|C5<|s0<|qm Z<|qm Z<|es (ra5 Z Z Z Z Z)<|s0<|oB hs1 fun x4 hx4 hs1=>oB hs1 fun x5 hx5 hs1=>qm Z<|qm Z<|qm Z<|A0 (D4 (f:=B7) Z Z hx4) Z<|A0 (I0 Z Z) Z<|B2 (rs:=[.b x5]) Z Z (A1 (D0 Z) B3) (Impl.call g1_h hx5 _)<|es (ra6 Z Z Z Z Z Z)<|wi hs1 Z (fun hc6 hs1=>?_) fun hc6 hs1=>?_
   ·refine s0<|qm Z<|qm Z<|es (ra1 Z)<|C6 ?_
    obtain rfl:=os hs1
    exact lx Z (ZE Z (retq trivial (A8 Z B6) (A5 Z B5) (A3 A4 B1))) (Sub.refl _)
   ·refine B8<|r0<|A0 (D8 Z Z) Z<|qm Z<|en (ra4 Z Z Z Z) ?_
    cases hs1
    exact lnT () Z (su4 Z Z Z Z)
  ·refine G5 ?_
   obtain rfl:=os hs1
   exact lx Z px (.nil _)
 ·rcases o7 with vo7_0|vo7_1
  ·rintro e s' H'-⟨rfl,hret⟩
   cases h
   exact hret
  ·rintro e s' H'-⟨rfl,rfl,rfl⟩
   refine s0<|qm Z<|es (ra1 Z)<|C6 ?_
   obtain rfl:=os h
   exact retq trivial (A8 Z B6) (A5 Z B5) (A3 A4 B1)
def J4 (a0:(List PaFigure)) (g1:(PaFigure→Option Bool)):Option Bool :=
 (M5 a0 g1).bind fun x1 =>
 some (decide (x1≥0))
theorem X6 {c:Sc} {H:A2} {a0:(List PaFigure)} {g1:PaFigure→Option Bool} {g1_i:Nat} {g1_f g1_c:List AV} (g1_h:Impl tab H g1_i g1_f g1_c g1 (fun y=>[(.agg (B7 y))]) (fun y=>[.b y])) {r:Bool} (h:J4 a0 g1=some r) :
  F0 tab c H (.fn (.func 84) [] []) [(.seq 4 (Zg B7 a0)),.fn (.func g1_i) g1_f g1_c] [.b r]:= by
 unfold J4 at h
 refine cE Z Z<|s0<|qm Z<|es (ra2 Z Z)<|s0<|oB h fun x1 hx1 h=>qm Z<|qm Z<|B2 (rs:=[.i x1]) Z Z (A1 Z (A1 Z B3)) ((A0e (Impl.app g1_h _) hx1).frz)<|A0 (A8p Z Z) Z<|qm Z<|es (ra1 Z)<|C6 ?_
 obtain rfl:=os h
 exact retq trivial (A8 Z B6) (A5 Z B5) (A3 A4 B1)
def Q2 (a0:(List PaFigure)) (a1:Int) (g2:(PaFigure→Option ByteArray)):Option Int :=
 (idx a0 a1).bind fun x1 =>
 (g2 x1).bind fun x2 =>
 (A5p x2).bind fun x3 =>
 if (!x3)=true then
  some 6
 else
  (slc a0 0 a1).bind fun x5 =>
  (J4 x5 (fun (y:PaFigure)=>O8 y g2 a0 a1)).bind fun x6 =>
  if x6=true then
  some 5
  else
  some 0
theorem A71 {c:Sc} {H:A2} {a0:(List PaFigure)} {a1:Int} {g2:PaFigure→Option ByteArray} {g2_i:Nat} {g2_f g2_c:List AV} (g2_h:Impl tab H g2_i g2_f g2_c g2 (fun y=>[(.agg (B7 y))]) (fun y=>[.s y])) {r:Int} (h:Q2 a0 a1 g2=some r) :
  F0 tab c H (.fn (.func 44) [] []) [(.seq 4 (Zg B7 a0)),.i a1,.fn (.func g2_i) g2_f g2_c] [.i r]:= by
 unfold Q2 at h
 refine cE Z Z<|sg 0 Z<|A0 (G1 (cs:=(cL 4 B7) a0) Z Z Z) Z<|A0 (G1 (cs:=cI a1) Z Z Z) Z<|A0 (G1 (cs:=[(.fn (.func g2_i) g2_f g2_c)]) Z Z Z) Z<|qm Z<|es (ra3 Z Z Z)<|B9<|C5<|s0<|oB h fun x1 hx1 h=>oB h fun x2 hx2 h=>oB h fun x3 hx3 h=>A0 (B4 (x:=(.fn (.func g2_i) g2_f g2_c)) Z Z Z) Z<|A0 (B4 Z Z Z) Z<|A0 (B4 Z Z Z) Z<|A0 (D4 (f:=B7) Z Z hx1) Z<|A0 (I0 Z Z) Z<|B2 (rs:=[.s x2]) Z Z (A1 (D0 Z) B3) (Impl.call g2_h hx2 _)<|B2 (rs:=[.b x3]) Z Z (A1 Z B3) ((B4d hx3).frz)<|A0 (M9 Z) Z<|qm Z<|es (ra4 Z Z Z Z)<|wi h Z (fun hc4 h=>?_) fun hc4 h=>?_
 ·refine s0<|qm Z<|es (ra1 Z)<|C6 ?_
  obtain rfl:=os h
  exact retq trivial (A8 Z B6) (A5 Z B5) (A3 A4 B1)
 ·refine s0<|oB h fun x5 hx5 h=>oB h fun x6 hx6 h=>A0 (B4 Z Z Z) Z<|A0 (B4 Z Z Z) Z<|A0 (B6a (f:=B7) Z Z Z hx5) Z<|A0 (A5r Z Z) Z<|B2 (rs:=[.b x6]) Z Z (A1 Z (A1 Z B3)) ((X6 (show Impl _ _ 85 [] [(.ptr (H.length+2) 0),(.ptr (H.length+0) 0),(.ptr (H.length+1) 0)] (fun (y:PaFigure)=>O8 y g2 a0 a1) (fun (y:PaFigure)=>[(.agg (B7 y))]) (fun (y:Bool)=>[.b y]) from ⟨⟨B1,(by rw[Zo];exact(A3 (J7 Z) (A3 (J7 Z) (A3 (J7 Z) B1))))⟩,fun H' hle hag c y r hr=>(A5g (A6y (Impl.mono (Impl.app g2_h _) hle hag) (hag _ _ (F7 Z)) (hag _ _ (F7 Z)) (hag _ _ (F7 Z)) hr)).frz⟩) hx6).frz)<|qm Z<|es (ra1 Z)<|wi h Z (fun hc7 h=>?_) fun hc7 h=>?_
  ·refine s0<|qm Z<|es (ra1 Z)<|C6 ?_
   obtain rfl:=os h
   exact retq trivial (A8 Z B6) (A5 Z B5) (A3 A4 B1)
  ·refine B8<|s0<|qm Z<|es (ra1 Z)<|C6 ?_
   obtain rfl:=os h
   exact retq trivial (A8 Z B6) (A5 Z B5) (A3 A4 B1)
def Q3 (a0:PaGown) (g1:(PaGown→Option ByteArray)) (a2:(List PaGown)) (a3:Int):Option Bool :=
 (g1 a0).bind fun x1 =>
 (idx a2 a3).bind fun x2 =>
 (g1 x2).bind fun x3 =>
 some (eqS x1 x3)
theorem A72 {c:Sc} {H:A2} {a0:PaGown} {g1:PaGown→Option ByteArray} {g1_i:Nat} {g1_f g1_c:List AV} (g1_h:Impl tab H g1_i g1_f g1_c g1 (fun y=>[(.agg (C7 y))]) (fun y=>[.s y])) {b1:Nat} (hb1:hcells H b1=some [.fn (.func g1_i) g1_f g1_c]) {a2:(List PaGown)} {b2:Nat} (hb2:hcells H b2=some ((cL 8 C7) a2)) {a3:Int} {b3:Nat} (hb3:hcells H b3=some (cI a3)) {r:Bool} (h:Q3 a0 g1 a2 a3=some r) :
  F0 tab c H (.fn (.func 83) [] []) [(.agg (C7 a0)),.ptr b1 0,.ptr b2 0,.ptr b3 0] [.b r]:= by
 unfold Q3 at h
 refine cE Z Z<|sg 0 Z<|A0 (G1 (cs:=C7 a0) Z Z Z) Z<|qm Z<|es (ra4 Z Z Z Z)<|s0<|oB h fun x1 hx1 h=>oB h fun x2 hx2 h=>oB h fun x3 hx3 h=>A0 (I6 (x:=(.fn (.func g1_i) g1_f g1_c)) Z hb1 Z) Z<|A0 (C9 Z Z Z) Z<|T3 (rs:=[.s x1]) Z Z (R5 Z A0j) (A1 (D0 Z) B3) (Impl.callP g1_h hx1 _)<|A0 (I6 (x:=(.fn (.func g1_i) g1_f g1_c)) Z hb1 Z) Z<|A0 (I6 Z hb2 Z) Z<|A0 (I6 Z hb3 Z) Z<|A0 (D4 (f:=C7) Z Z hx2) Z<|A0 (I0 Z Z) Z<|B2 (rs:=[.s x3]) Z Z (A1 (D0 Z) B3) (Impl.call g1_h hx3 _)<|A0 (D6n Z Z) Z<|qm Z<|es (ra1 Z)<|C6 ?_
 obtain rfl:=os h
 exact retq trivial (A8 Z B6) (A5 Z B5) (A3 A4 B1)
def M7 (a0:(List PaGown)) (g1:(PaGown→Option Bool)) (s1:Int):Option (Int⊕(Int⊕Unit)) :=
 if (decide (s1<(Zh a0:Int)))=true then
  (idx a0 s1).bind fun x4 =>
  (g1 x4).bind fun x5 =>
  if x5=true then
  some (.inr (.inl s1))
  else
  some (.inl (w64 (s1+1)))
 else
  some (.inr (.inr ()))
def O0 (a0:(List PaGown)) (g1:(PaGown→Option Bool)):Option Int :=
 (loop (M7 a0 g1) 0).bind fun (o7:(Int⊕Unit)) =>
 match o7 with
 | (.inl vo7_0) =>
  some vo7_0
 | (.inr vo7_1) =>
  some (-1)
theorem A07 {c:Sc} {H:A2} {a0:(List PaGown)} {g1:PaGown→Option Bool} {g1_i:Nat} {g1_f g1_c:List AV} (g1_h:Impl tab H g1_i g1_f g1_c g1 (fun y=>[(.agg (C7 y))]) (fun y=>[.b y])) {r:Int} (h:O0 a0 g1=some r) :
  F0 tab c H (.fn (.func 110) [] []) [(.seq 8 (Zg C7 a0)),.fn (.func g1_i) g1_f g1_c] [.i r]:= by
 unfold O0 at h
 refine cE Z Z<|s0<|qm Z<|es (ra2 Z Z)<|B9<|s0<|qm Z<|A0 (F2 (f:=C7) Z) Z<|qm Z<|es (ra4 Z Z Z Z)<|C5<|oB h fun o7 ho7 h=>wl (fun s1=>[(0,(.seq 8 (Zg C7 a0))),(1,(.fn (.func g1_i) g1_f g1_c)),(7,(.i (Zh a0:Int))),(8,.i s1)]) (fun (q2:Unit) s1=>[]) 0 (fun r e s' H'=>(match r with|(.inl v)=>e=.ret∧RetQ H [.tmp 4] [.i v] e s' H' | (.inr v)=>PX 0 [] (H++[]) e s' H':Prop)) () ho7 Z Z (fun _ _=>rfl) (fun _=>rfl) Z (fun s1=>(bdc G6 (bdc (C79 g1_h.1) (bdc A4 (bdc A4 bdn))))) (fun q2 s1 ys1 hs1=>?_) ?_
 ·unfold M7 at hs1
  refine s0<|A0 (I3 Z Z) Z<|es (ra5 Z Z Z Z Z)<|B9<|wi hs1 Z (fun hc3 hs1=>?_) fun hc3 hs1=>?_
  ·refine B8<|B9<|C5<|s0<|qm Z<|qm Z<|es (ra5 Z Z Z Z Z)<|s0<|oB hs1 fun x4 hx4 hs1=>oB hs1 fun x5 hx5 hs1=>qm Z<|qm Z<|qm Z<|A0 (D4 (f:=C7) Z Z hx4) Z<|A0 (I0 Z Z) Z<|B2 (rs:=[.b x5]) Z Z (A1 (D0 Z) B3) (Impl.call g1_h hx5 _)<|es (ra6 Z Z Z Z Z Z)<|wi hs1 Z (fun hc6 hs1=>?_) fun hc6 hs1=>?_
   ·refine s0<|qm Z<|qm Z<|es (ra1 Z)<|C6 ?_
    obtain rfl:=os hs1
    exact lx Z (ZE Z (retq trivial (A8 Z B6) (A5 Z B5) (A3 A4 B1))) (Sub.refl _)
   ·refine B8<|r0<|A0 (D8 Z Z) Z<|qm Z<|en (ra4 Z Z Z Z) ?_
    cases hs1
    exact lnT () Z (su4 Z Z Z Z)
  ·refine G5 ?_
   obtain rfl:=os hs1
   exact lx Z px (.nil _)
 ·rcases o7 with vo7_0|vo7_1
  ·rintro e s' H'-⟨rfl,hret⟩
   cases h
   exact hret
  ·rintro e s' H'-⟨rfl,rfl,rfl⟩
   refine s0<|qm Z<|es (ra1 Z)<|C6 ?_
   obtain rfl:=os h
   exact retq trivial (A8 Z B6) (A5 Z B5) (A3 A4 B1)
def K4 (a0:(List PaGown)) (g1:(PaGown→Option Bool)):Option Bool :=
 (O0 a0 g1).bind fun x1 =>
 some (decide (x1≥0))
theorem A0i {c:Sc} {H:A2} {a0:(List PaGown)} {g1:PaGown→Option Bool} {g1_i:Nat} {g1_f g1_c:List AV} (g1_h:Impl tab H g1_i g1_f g1_c g1 (fun y=>[(.agg (C7 y))]) (fun y=>[.b y])) {r:Bool} (h:K4 a0 g1=some r) :
  F0 tab c H (.fn (.func 82) [] []) [(.seq 8 (Zg C7 a0)),.fn (.func g1_i) g1_f g1_c] [.b r]:= by
 unfold K4 at h
 refine cE Z Z<|s0<|qm Z<|es (ra2 Z Z)<|s0<|oB h fun x1 hx1 h=>qm Z<|qm Z<|B2 (rs:=[.i x1]) Z Z (A1 Z (A1 Z B3)) ((A07 (Impl.app g1_h _) hx1).frz)<|A0 (A8p Z Z) Z<|qm Z<|es (ra1 Z)<|C6 ?_
 obtain rfl:=os h
 exact retq trivial (A8 Z B6) (A5 Z B5) (A3 A4 B1)
def R9 (a0:(List PaGown)) (a1:Int) (g2:(PaGown→Option ByteArray)):Option Int :=
 (idx a0 a1).bind fun x1 =>
 (g2 x1).bind fun x2 =>
 (A5p x2).bind fun x3 =>
 if (!x3)=true then
  some 6
 else
  (slc a0 0 a1).bind fun x5 =>
  (K4 x5 (fun (y:PaGown)=>Q3 y g2 a0 a1)).bind fun x6 =>
  if x6=true then
  some 5
  else
  some 0
theorem A9m {c:Sc} {H:A2} {a0:(List PaGown)} {a1:Int} {g2:PaGown→Option ByteArray} {g2_i:Nat} {g2_f g2_c:List AV} (g2_h:Impl tab H g2_i g2_f g2_c g2 (fun y=>[(.agg (C7 y))]) (fun y=>[.s y])) {r:Int} (h:R9 a0 a1 g2=some r) :
  F0 tab c H (.fn (.func 41) [] []) [(.seq 8 (Zg C7 a0)),.i a1,.fn (.func g2_i) g2_f g2_c] [.i r]:= by
 unfold R9 at h
 refine cE Z Z<|sg 0 Z<|A0 (G1 (cs:=(cL 8 C7) a0) Z Z Z) Z<|A0 (G1 (cs:=cI a1) Z Z Z) Z<|A0 (G1 (cs:=[(.fn (.func g2_i) g2_f g2_c)]) Z Z Z) Z<|qm Z<|es (ra3 Z Z Z)<|B9<|C5<|s0<|oB h fun x1 hx1 h=>oB h fun x2 hx2 h=>oB h fun x3 hx3 h=>A0 (B4 (x:=(.fn (.func g2_i) g2_f g2_c)) Z Z Z) Z<|A0 (B4 Z Z Z) Z<|A0 (B4 Z Z Z) Z<|A0 (D4 (f:=C7) Z Z hx1) Z<|A0 (I0 Z Z) Z<|B2 (rs:=[.s x2]) Z Z (A1 (D0 Z) B3) (Impl.call g2_h hx2 _)<|B2 (rs:=[.b x3]) Z Z (A1 Z B3) ((B4d hx3).frz)<|A0 (M9 Z) Z<|qm Z<|es (ra4 Z Z Z Z)<|wi h Z (fun hc4 h=>?_) fun hc4 h=>?_
 ·refine s0<|qm Z<|es (ra1 Z)<|C6 ?_
  obtain rfl:=os h
  exact retq trivial (A8 Z B6) (A5 Z B5) (A3 A4 B1)
 ·refine s0<|oB h fun x5 hx5 h=>oB h fun x6 hx6 h=>A0 (B4 Z Z Z) Z<|A0 (B4 Z Z Z) Z<|A0 (B6a (f:=C7) Z Z Z hx5) Z<|A0 (A5r Z Z) Z<|B2 (rs:=[.b x6]) Z Z (A1 Z (A1 Z B3)) ((A0i (show Impl _ _ 83 [] [(.ptr (H.length+2) 0),(.ptr (H.length+0) 0),(.ptr (H.length+1) 0)] (fun (y:PaGown)=>Q3 y g2 a0 a1) (fun (y:PaGown)=>[(.agg (C7 y))]) (fun (y:Bool)=>[.b y]) from ⟨⟨B1,(by rw[Zo];exact(A3 (J7 Z) (A3 (J7 Z) (A3 (J7 Z) B1))))⟩,fun H' hle hag c y r hr=>(A5g (A72 (Impl.mono (Impl.app g2_h _) hle hag) (hag _ _ (F7 Z)) (hag _ _ (F7 Z)) (hag _ _ (F7 Z)) hr)).frz⟩) hx6).frz)<|qm Z<|es (ra1 Z)<|wi h Z (fun hc7 h=>?_) fun hc7 h=>?_
  ·refine s0<|qm Z<|es (ra1 Z)<|C6 ?_
   obtain rfl:=os h
   exact retq trivial (A8 Z B6) (A5 Z B5) (A3 A4 B1)
  ·refine B8<|s0<|qm Z<|es (ra1 Z)<|C6 ?_
   obtain rfl:=os h
   exact retq trivial (A8 Z B6) (A5 Z B5) (A3 A4 B1)
def A15 (a0:Int) (a1:Int) (a2:Int):Option Bool :=
 some ((decide (a0<a1))||(decide (a0>a2)))
theorem B6c {c:Sc} {H:A2} {a0:Int} {a1:Int} {b1:Nat} (hb1:hcells H b1=some (cI a1)) {a2:Int} {b2:Nat} (hb2:hcells H b2=some (cI a2)) {r:Bool} (h:A15 a0 a1 a2=some r) :
  F0 tab c H (.fn (.func 87) [] []) [.i a0,.ptr b1 0,.ptr b2 0] [.b r]:= by
 unfold A15 at h
 refine cE Z Z<|s0<|qm Z<|es (ra3 Z Z Z)<|s0<|qm Z<|A0 (I6 Z hb1 Z) Z<|A0 (I3 Z Z) Z<|qm Z<|gp 4 12 (.b ((decide (a0<a1))||(decide (a0>a2)))) 8 Z Z (fun hg1=>?_) (fun hg1=>?_) ?_
 ·exact nF Z hg1 Z<|nF Z hg1 Z<|nF Z hg1 Z<|A0 (C1 Z hg1 Z) Z<|ge 4 (by rw[hg1];rfl) Z Z
 ·exact gF Z hg1<|qm Z<|gF Z hg1<|A0 (I6 Z hb2 Z) Z<|gF Z hg1<|A0 (W0 Z Z) Z<|A0 (C0 Z hg1 Z) Z<|ge 4 (by rw[hg1];rfl) Z Z
 refine qm Z<|es (ra1 Z)<|C6 ?_
 obtain rfl:=os h
 exact retq trivial (A8 Z B6) (A5 Z B5) (A3 A4 B1)
def V4 (a0:(List Int)) (g1:(Int→Option Bool)) (s1:Int):Option (Int⊕(Int⊕Unit)) :=
 if (decide (s1<(Zh a0:Int)))=true then
  (idx a0 s1).bind fun x4 =>
  (g1 x4).bind fun x5 =>
  if x5=true then
  some (.inr (.inl s1))
  else
  some (.inl (w64 (s1+1)))
 else
  some (.inr (.inr ()))
def A0b (a0:(List Int)) (g1:(Int→Option Bool)):Option Int :=
 (loop (V4 a0 g1) 0).bind fun (o7:(Int⊕Unit)) =>
 match o7 with
 | (.inl vo7_0) =>
  some vo7_0
 | (.inr vo7_1) =>
  some (-1)
theorem A7b {c:Sc} {H:A2} {a0:(List Int)} {g1:Int→Option Bool} {g1_i:Nat} {g1_f g1_c:List AV} (g1_h:Impl tab H g1_i g1_f g1_c g1 (fun y=>[.i y]) (fun y=>[.b y])) {r:Int} (h:A0b a0 g1=some r) :
  F0 tab c H (.fn (.func 112) [] []) [(.seq 1 (Zg cI a0)),.fn (.func g1_i) g1_f g1_c] [.i r]:= by
 unfold A0b at h
 refine cE Z Z<|s0<|qm Z<|es (ra2 Z Z)<|B9<|s0<|qm Z<|A0 (F2 (f:=cI) Z) Z<|qm Z<|es (ra4 Z Z Z Z)<|C5<|oB h fun o7 ho7 h=>wl (fun s1=>[(0,(.seq 1 (Zg cI a0))),(1,(.fn (.func g1_i) g1_f g1_c)),(7,(.i (Zh a0:Int))),(8,.i s1)]) (fun (q2:Unit) s1=>[]) 0 (fun r e s' H'=>(match r with|(.inl v)=>e=.ret∧RetQ H [.tmp 4] [.i v] e s' H' | (.inr v)=>PX 0 [] (H++[]) e s' H':Prop)) () ho7 Z Z (fun _ _=>rfl) (fun _=>rfl) Z (fun s1=>(bdc G6 (bdc (C79 g1_h.1) (bdc A4 (bdc A4 bdn))))) (fun q2 s1 ys1 hs1=>?_) ?_
 ·unfold V4 at hs1
  refine s0<|A0 (I3 Z Z) Z<|es (ra5 Z Z Z Z Z)<|B9<|wi hs1 Z (fun hc3 hs1=>?_) fun hc3 hs1=>?_
  ·refine B8<|B9<|C5<|s0<|qm Z<|qm Z<|es (ra5 Z Z Z Z Z)<|s0<|oB hs1 fun x4 hx4 hs1=>oB hs1 fun x5 hx5 hs1=>qm Z<|qm Z<|qm Z<|A0 (D4 (f:=cI) Z Z hx4) Z<|A0 (G2 Z Z) Z<|B2 (rs:=[.b x5]) Z Z (A1 Z B3) (Impl.call g1_h hx5 _)<|es (ra6 Z Z Z Z Z Z)<|wi hs1 Z (fun hc6 hs1=>?_) fun hc6 hs1=>?_
   ·refine s0<|qm Z<|qm Z<|es (ra1 Z)<|C6 ?_
    obtain rfl:=os hs1
    exact lx Z (ZE Z (retq trivial (A8 Z B6) (A5 Z B5) (A3 A4 B1))) (Sub.refl _)
   ·refine B8<|r0<|A0 (D8 Z Z) Z<|qm Z<|en (ra4 Z Z Z Z) ?_
    cases hs1
    exact lnT () Z (su4 Z Z Z Z)
  ·refine G5 ?_
   obtain rfl:=os hs1
   exact lx Z px (.nil _)
 ·rcases o7 with vo7_0|vo7_1
  ·rintro e s' H'-⟨rfl,hret⟩
   cases h
   exact hret
  ·rintro e s' H'-⟨rfl,rfl,rfl⟩
   refine s0<|qm Z<|es (ra1 Z)<|C6 ?_
   obtain rfl:=os h
   exact retq trivial (A8 Z B6) (A5 Z B5) (A3 A4 B1)
def Q4 (a0:(List Int)) (g1:(Int→Option Bool)):Option Bool :=
 (A0b a0 g1).bind fun x1 =>
 some (decide (x1≥0))
theorem A5t {c:Sc} {H:A2} {a0:(List Int)} {g1:Int→Option Bool} {g1_i:Nat} {g1_f g1_c:List AV} (g1_h:Impl tab H g1_i g1_f g1_c g1 (fun y=>[.i y]) (fun y=>[.b y])) {r:Bool} (h:Q4 a0 g1=some r) :
  F0 tab c H (.fn (.func 86) [] []) [(.seq 1 (Zg cI a0)),.fn (.func g1_i) g1_f g1_c] [.b r]:= by
 unfold Q4 at h
 refine cE Z Z<|s0<|qm Z<|es (ra2 Z Z)<|s0<|oB h fun x1 hx1 h=>qm Z<|qm Z<|B2 (rs:=[.i x1]) Z Z (A1 Z (A1 Z B3)) ((A7b (Impl.app g1_h _) hx1).frz)<|A0 (A8p Z Z) Z<|qm Z<|es (ra1 Z)<|C6 ?_
 obtain rfl:=os h
 exact retq trivial (A8 Z B6) (A5 Z B5) (A3 A4 B1)
def G3 (a0:Int) (a1:Int) (a2:(List Int)):Option Bool :=
 (Q4 a2 (fun (y:Int)=>A15 y a0 a1)).bind fun x1 =>
 some x1
theorem H8 {c:Sc} {H:A2} {a0:Int} {a1:Int} {a2:(List Int)} {r:Bool} (h:G3 a0 a1 a2=some r) :
  F0 tab c H (.fn (.func 46) [] []) [.i a0,.i a1,(.seq 1 (Zg cI a2))] [.b r]:= by
 unfold G3 at h
 refine cE Z Z<|sg 0 Z<|A0 (G1 (cs:=cI a0) Z Z Z) Z<|A0 (G1 (cs:=cI a1) Z Z Z) Z<|qm Z<|es (ra3 Z Z Z)<|s0<|oB h fun x1 hx1 h=>qm Z<|A0 (A5r Z Z) Z<|B2 (rs:=[.b x1]) Z Z (A1 Z (A1 Z B3)) ((A5t (show Impl _ _ 87 [] [(.ptr (H.length+0) 0),(.ptr (H.length+1) 0)] (fun (y:Int)=>A15 y a0 a1) (fun (y:Int)=>[.i y]) (fun (y:Bool)=>[.b y]) from ⟨⟨B1,(by rw[Zo];exact(A3 (J7 Z) (A3 (J7 Z) B1)))⟩,fun H' hle hag c y r hr=>(A5g (B6c (hag _ _ (F7 Z)) (hag _ _ (F7 Z)) hr)).frz⟩) hx1).frz)<|qm Z<|es (ra1 Z)<|C6 ?_
 obtain rfl:=os h
 exact retq trivial (A8 Z B6) (A5 Z B5) (A3 A4 B1)
def A75 (a0:PaGown):Option Bool :=
 if (!a0.Pawn)=true then
  (G3 0 15 [a0.Looks]).bind fun x2 =>
  (if x2=true then
  some true
  else
  (G3 0 0 [a0.Loan,a0.Rate,a0.Fee,a0.Ago,a0.Last]).bind fun x4 =>
  some x4).bind fun x5 =>
  some x5
 else
  (G3 0 15 [a0.Looks]).bind fun x6 =>
  (if x6=true then
  some true
  else
  (G3 0 5000 [a0.Loan]).bind fun x8 =>
  some x8).bind fun x9 =>
  (if x9=true then
  some true
  else
  (G3 0 500 [a0.Rate]).bind fun x11 =>
  some x11).bind fun x12 =>
  (if x12=true then
  some true
  else
  (G3 0 100 [a0.Fee]).bind fun x14 =>
  some x14).bind fun x15 =>
  (if x15=true then
  some true
  else
  (G3 0 364 [a0.Ago,a0.Last]).bind fun x17 =>
  some x17).bind fun x18 =>
  some x18
theorem C3y {c:Sc} {H:A2} {a0:PaGown} {r:Bool} (h:A75 a0=some r) :
  F0 tab c H (.fn (.func 43) [] []) [(.agg (C7 a0))] [.b r]:= by
 unfold A75 at h
 refine cE Z Z<|sg 0 Z<|A0 (G1 (cs:=C7 a0) Z Z Z) Z<|qm Z<|es (ra1 Z)<|B9<|s0<|A0 (C3 Z) Z<|A0 (B4 Z Z Z) Z<|A0 (M9 Z) Z<|es (ra2 Z Z)<|wi h Z (fun hc1 h=>?_) fun hc1 h=>?_
 ·refine s0<|oB h fun x2 hx2 h=>oB h fun x5 hx5 h=>A0 (C3 Z) Z<|A0 (B4 Z Z Z) Z<|A0 (J2 (rows:=Zg cI [a0.Looks]) Z Z (D9 (fun _=>rfl) _)) Z<|B2 (rs:=[.b x2]) Z Z (A1 Z (A1 Z (A1 Z B3))) ((H8 hx2).frz)<|qm Z<|gp 13 23 (.b x5) 10 Z Z (fun hg3=>?_) (fun hg3=>?_) ?_
  ·obtain rfl:=os (bt hx5 hg3)
   exact nF Z hg3 Z<|nF Z hg3 Z<|nF Z hg3 Z<|nF Z hg3 Z<|nF Z hg3 Z<|nF Z hg3 Z<|nF Z hg3 Z<|nF Z hg3 Z<|nF Z hg3 Z<|nF Z hg3 Z<|nF Z hg3 Z<|G4 (D2 Z (by rw[hg3];rfl)) Z<|A0 (C1 Z hg3 Z) Z<|ge 13 Z Z Z
  ·refine oB (bf hx5 hg3) fun x4 hx4 hx5=>?_
   obtain rfl:=os hx5
   exact gF Z hg3<|A0 (C3 Z) Z<|gF Z hg3<|A0 (B4 Z Z Z) Z<|gF Z hg3<|A0 (C3 Z) Z<|gF Z hg3<|A0 (B4 Z Z Z) Z<|gF Z hg3<|A0 (C3 Z) Z<|gF Z hg3<|A0 (B4 Z Z Z) Z<|gF Z hg3<|A0 (C3 Z) Z<|gF Z hg3<|A0 (B4 Z Z Z) Z<|gF Z hg3<|A0 (C3 Z) Z<|gF Z hg3<|A0 (B4 Z Z Z) Z<|gF Z hg3<|A0 (J2 (rows:=Zg cI [a0.Loan,a0.Rate,a0.Fee,a0.Ago,a0.Last]) Z Z (D9 (fun _=>rfl) _)) Z<|gF Z hg3<|B2 (rs:=[.b x4]) Z Z (A1 Z (A1 Z (A1 Z B3))) ((H8 hx4).frz)<|A0 (C0 Z hg3 Z) Z<|ge 13 Z Z Z
  refine qm Z<|es (ra1 Z)<|C6 ?_
  obtain rfl:=os h
  exact retq trivial (A8 Z B6) (A5 Z B5) (A3 A4 B1)
 ·refine B8<|s0<|oB h fun x6 hx6 h=>oB h fun x9 hx9 h=>oB h fun x12 hx12 h=>oB h fun x15 hx15 h=>oB h fun x18 hx18 h=>A0 (C3 Z) Z<|A0 (B4 Z Z Z) Z<|A0 (J2 (rows:=Zg cI [a0.Looks]) Z Z (D9 (fun _=>rfl) _)) Z<|B2 (rs:=[.b x6]) Z Z (A1 Z (A1 Z (A1 Z B3))) ((H8 hx6).frz)<|qm Z<|gp 5 33 (.b x9) 28 Z Z (fun hg7=>?_) (fun hg7=>?_) ?_
  ·obtain rfl:=os (bt hx9 hg7)
   exact nF Z hg7 Z<|nF Z hg7 Z<|nF Z hg7 Z<|G4 (D2 Z (by rw[hg7];rfl)) Z<|A0 (C1 Z hg7 Z) Z<|ge 5 Z Z Z
  ·refine oB (bf hx9 hg7) fun x8 hx8 hx9=>?_
   obtain rfl:=os hx9
   exact gF Z hg7<|A0 (C3 Z) Z<|gF Z hg7<|A0 (B4 Z Z Z) Z<|gF Z hg7<|A0 (J2 (rows:=Zg cI [a0.Loan]) Z Z (D9 (fun _=>rfl) _)) Z<|gF Z hg7<|B2 (rs:=[.b x8]) Z Z (A1 Z (A1 Z (A1 Z B3))) ((H8 hx8).frz)<|A0 (C0 Z hg7 Z) Z<|ge 5 Z Z Z
  refine qm Z<|gp 5 39 (.b x12) 34 Z Z (fun hg10=>?_) (fun hg10=>?_) ?_
  ·obtain rfl:=os (bt hx12 hg10)
   exact nF Z hg10 Z<|nF Z hg10 Z<|nF Z hg10 Z<|G4 (D2 Z (by rw[hg10];rfl)) Z<|A0 (C1 Z hg10 Z) Z<|ge 5 Z Z Z
  ·refine oB (bf hx12 hg10) fun x11 hx11 hx12=>?_
   obtain rfl:=os hx12
   exact gF Z hg10<|A0 (C3 Z) Z<|gF Z hg10<|A0 (B4 Z Z Z) Z<|gF Z hg10<|A0 (J2 (rows:=Zg cI [a0.Rate]) Z Z (D9 (fun _=>rfl) _)) Z<|gF Z hg10<|B2 (rs:=[.b x11]) Z Z (A1 Z (A1 Z (A1 Z B3))) ((H8 hx11).frz)<|A0 (C0 Z hg10 Z) Z<|ge 5 Z Z Z
  refine qm Z<|gp 5 45 (.b x15) 40 Z Z (fun hg13=>?_) (fun hg13=>?_) ?_
  ·obtain rfl:=os (bt hx15 hg13)
   exact nF Z hg13 Z<|nF Z hg13 Z<|nF Z hg13 Z<|G4 (D2 Z (by rw[hg13];rfl)) Z<|A0 (C1 Z hg13 Z) Z<|ge 5 Z Z Z
  ·refine oB (bf hx15 hg13) fun x14 hx14 hx15=>?_
   obtain rfl:=os hx15
   exact gF Z hg13<|A0 (C3 Z) Z<|gF Z hg13<|A0 (B4 Z Z Z) Z<|gF Z hg13<|A0 (J2 (rows:=Zg cI [a0.Fee]) Z Z (D9 (fun _=>rfl) _)) Z<|gF Z hg13<|B2 (rs:=[.b x14]) Z Z (A1 Z (A1 Z (A1 Z B3))) ((H8 hx14).frz)<|A0 (C0 Z hg13 Z) Z<|ge 5 Z Z Z
  refine qm Z<|gp 7 53 (.b x18) 46 Z Z (fun hg16=>?_) (fun hg16=>?_) ?_
  ·obtain rfl:=os (bt hx18 hg16)
   exact nF Z hg16 Z<|nF Z hg16 Z<|nF Z hg16 Z<|nF Z hg16 Z<|nF Z hg16 Z<|G4 (D2 Z (by rw[hg16];rfl)) Z<|A0 (C1 Z hg16 Z) Z<|ge 7 Z Z Z
  ·refine oB (bf hx18 hg16) fun x17 hx17 hx18=>?_
   obtain rfl:=os hx18
   exact gF Z hg16<|A0 (C3 Z) Z<|gF Z hg16<|A0 (B4 Z Z Z) Z<|gF Z hg16<|A0 (C3 Z) Z<|gF Z hg16<|A0 (B4 Z Z Z) Z<|gF Z hg16<|A0 (J2 (rows:=Zg cI [a0.Ago,a0.Last]) Z Z (D9 (fun _=>rfl) _)) Z<|gF Z hg16<|B2 (rs:=[.b x17]) Z Z (A1 Z (A1 Z (A1 Z B3))) ((H8 hx17).frz)<|A0 (C0 Z hg16 Z) Z<|ge 7 Z Z Z
  refine qm Z<|es (ra1 Z)<|C6 ?_
  obtain rfl:=os h
  exact retq trivial (A8 Z B6) (A5 Z B5) (A3 A4 B1)
def A3e (a0:PaShow) (s2:Int):Option (Int⊕((Int×Int×Int)⊕Unit)) :=
 if (decide (s2<(Zh a0.Gowns:Int)))=true then
  (idx a0.Gowns s2).bind fun x5 =>
  (R9 a0.Gowns s2 (fun (y:PaGown)=>A2q y)).bind fun x6 =>
  (if (x6==0)=true then
  (A75 x5).bind fun x8 =>
  some x8
  else
  some false).bind fun x9 =>
  if x9=true then
  some (.inr (.inl (1,s2,7)))
  else
  if (x6 != 0)=true then
   some (.inr (.inl (1,s2,x6)))
  else
   some (.inl (w64 (s2+1)))
 else
  some (.inr (.inr ()))
def A3f (a0:PaShow) (s14:Int):Option (Int⊕((Int×Int×Int)⊕Unit)) :=
 if (decide (s14<(Zh a0.Figures:Int)))=true then
  (idx a0.Figures s14).bind fun x17 =>
  (Q2 a0.Figures s14 (fun (y:PaFigure)=>A2r y)).bind fun x18 =>
  if (x18 != 0)=true then
  some (.inr (.inl (2,s14,x18)))
  else
  (G3 0 364 [x17.Day,x17.Until]).bind fun x20 =>
  (if x20=true then
   some true
  else
   (G3 0 15 [x17.Needs]).bind fun x22 =>
   some x22).bind fun x23 =>
  if x23=true then
   some (.inr (.inl (2,s14,7)))
  else
   if (decide (x17.Day>x17.Until))=true then
   some (.inr (.inl (2,s14,2)))
   else
   some (.inl (w64 (s14+1)))
 else
  some (.inr (.inr ()))
def A3g (a0:PaShow) (s30:Int):Option (Int⊕((Int×Int×Int)⊕Unit)) :=
 if (decide (s30<(Zh a0.Incomes:Int)))=true then
  (idx a0.Incomes s30).bind fun x33 =>
  (G3 0 364 [x33.Day]).bind fun x34 =>
  (if x34=true then
  some true
  else
  (G3 0 10000 [x33.Pence]).bind fun x36 =>
  some x36).bind fun x37 =>
  if x37=true then
  some (.inr (.inl (4,s30,7)))
  else
  some (.inl (w64 (s30+1)))
 else
  some (.inr (.inr ()))
def A36 (a0:PaShow):Option (Int×Int×Int) :=
 if (decide ((Zh a0.Gowns:Int)>5))=true then
  some (1,0,3)
 else
  (loop (A3e a0) 0).bind fun (o12:((Int×Int×Int)⊕Unit)) =>
  match o12 with
  | (.inl vo12_0) =>
  some vo12_0
  | (.inr vo12_1) =>
  if (decide ((Zh a0.Figures:Int)>3))=true then
   some (2,0,3)
  else
   (loop (A3f a0) 0).bind fun (o26:((Int×Int×Int)⊕Unit)) =>
   match o26 with
   | (.inl vo26_0) =>
   some vo26_0
   | (.inr vo26_1) =>
   (G3 0 10000 [a0.Purse]).bind fun x27 =>
   if x27=true then
    some (3,0,7)
   else
    if (decide ((Zh a0.Incomes:Int)>3))=true then
    some (4,0,3)
    else
    (loop (A3g a0) 0).bind fun (o39:((Int×Int×Int)⊕Unit)) =>
    match o39 with
    | (.inl vo39_0) =>
     some vo39_0
    | (.inr vo39_1) =>
     some (0,0,0)
theorem A9l {c:Sc} {H:A2} {a0:PaShow} {r:(Int×Int×Int)} (h:A36 a0=some r) :
  F0 tab c H (.fn (.func 10) [] []) [(.agg (A9 a0))] [.i r.1,.i r.2.1,.i r.2.2]:= by
 unfold A36 at h
 refine cE Z Z<|sg 0 Z<|A0 (G1 (cs:=A9 a0) Z Z Z) Z<|qm Z<|qm Z<|qm Z<|es (ra1 Z)<|B9<|s0<|A0 (C3 Z) Z<|A0 (B4 Z Z Z) Z<|A0 (F2 (f:=C7) Z) Z<|A0 (W0 Z Z) Z<|es (ra2 Z Z)<|wi h Z (fun hc1 h=>?_) fun hc1 h=>?_
 ·refine s0<|qm Z<|qm Z<|qm Z<|es (ra3 Z Z Z)<|C6 ?_
  obtain rfl:=os h
  exact retq trivial (A8 Z (A8 Z (A8 Z B6))) (A5 Z (A5 Z (A5 Z B5))) (A3 A4 (A3 A4 (A3 A4 B1)))
 ·refine B8<|B9<|s0<|A0 (C3 Z) Z<|A0 (B4 Z Z Z) Z<|A0 (F2 (f:=C7) Z) Z<|qm Z<|es (ra4 Z Z Z Z)<|C5<|oB h fun o12 ho12 h=>wl (fun s2=>[(1,(.ptr (H.length+0) 0)),(16,(.seq 8 (Zg C7 a0.Gowns))),(17,(.i (Zh a0.Gowns:Int))),(18,.i s2)]) (fun (q3:Unit) s2=>[(.cells (A9 a0))]) 1 (fun r e s' H'=>(match r with|(.inl v)=>e=.ret∧RetQ H [.tmp 2,.tmp 3,.tmp 4] [.i v.1,.i v.2.1,.i v.2.2] e s' H' | (.inr v)=>PX 0 [(1,(.ptr (H.length+0) 0))] (H++[(.cells (A9 a0))]) e s' H':Prop)) () ho12 Z Z (fun _ _=>rfl) (fun _=>rfl) Z (fun s2=>(bdc (J7 Z) (bdc G6 (bdc A4 (bdc A4 bdn))))) (fun q3 s2 ys2 hs2=>?_) ?_
  ·unfold A3e at hs2
   refine s0<|A0 (I3 Z Z) Z<|es (ra5 Z Z Z Z Z)<|B9<|wi hs2 Z (fun hc4 hs2=>?_) fun hc4 hs2=>?_
   ·refine B8<|B9<|C5<|sg 1 Z<|oB hs2 fun x5 hx5 hs2=>qm Z<|A0 (D4 (f:=C7) Z Z hx5) Z<|A0 (I0 Z Z) Z<|A0 J6 Z<|qm Z<|O6 (G0 (ds:=(C7 x5)) Z Z Z Z (E0 Z) Z) Z<|es (ra6 Z Z Z Z Z Z)<|s0<|oB hs2 fun x6 hx6 hs2=>A0 (C3 Z) Z<|A0 (B4 Z Z Z) Z<|qm Z<|B2 (rs:=[.i x6]) Z Z (A1 Z (A1 Z (A1 Z B3))) ((A9m (show Impl _ _ 42 [] [] (fun (y:PaGown)=>A2q y) (fun (y:PaGown)=>[(.agg (C7 y))]) (fun (y:ByteArray)=>[.s y]) from ⟨⟨B1,B1⟩,fun H' hle hag c y r hr=>(B9v hr).frz⟩) hx6).frz)<|qm Z<|es (ra7 Z Z Z Z Z Z Z)<|B9<|s0<|oB hs2 fun x9 hx9 hs2=>qm Z<|A0 (F9 Z Z) Z<|qm Z<|gp 3 32 (.b x9) 29 Z Z (fun hg7=>?_) (fun hg7=>?_) ?_
    ·refine oB (bt hx9 hg7) fun x8 hx8 hx9=>?_
     obtain rfl:=os hx9
     exact gT Z hg7<|A0 (C9 Z Z Z) Z<|gT Z hg7<|B2 (rs:=[.b x8]) Z Z (A1 (D0 Z) B3) ((C3y hx8).frz)<|A0 (C1 Z hg7 Z) Z<|ge 3 Z Z Z
    ·obtain rfl:=os (bf hx9 hg7)
     exact nT Z hg7 Z<|G4 (D2 Z (by rw[hg7];rfl)) Z<|A0 (C0 Z hg7 Z) Z<|ge 3 Z Z Z
    refine es (ra7 Z Z Z Z Z Z Z)<|wi hs2 Z (fun hc10 hs2=>?_) fun hc10 hs2=>?_
    ·refine r0<|qm Z<|en (ra6 Z Z Z Z Z Z)<|s0<|qm Z<|A0 (R8 (v:=(.b true)) Z Z Z) Z<|es (ra7 Z Z Z Z Z Z Z)<|Q5 Z Z<|s0<|qm Z<|qm Z<|qm Z<|qm Z<|qm Z<|es (ra3 Z Z Z)<|C6 ?_
     obtain rfl:=os hs2
     exact lx Z (ZE Z (retq trivial (A8 Z (A8 Z (A8 Z B6))) (A5 Z (A5 Z (A5 Z B5))) (A3 A4 (A3 A4 (A3 A4 B1))))) (Sub.refl _)
    ·refine B8<|s0<|qm Z<|A0 (H9 Z Z) Z<|es (ra7 Z Z Z Z Z Z Z)<|wi hs2 Z (fun hc11 hs2=>?_) fun hc11 hs2=>?_
     ·refine s0<|qm Z<|qm Z<|qm Z<|qm Z<|qm Z<|es (ra3 Z Z Z)<|C6 ?_
      obtain rfl:=os hs2
      exact lx Z (ZE Z (retq trivial (A8 Z (A8 Z (A8 Z B6))) (A5 Z (A5 Z (A5 Z B5))) (A3 A4 (A3 A4 (A3 A4 B1))))) (Sub.refl _)
     ·refine B8<|r0<|A0 (D8 Z Z) Z<|qm Z<|en (ra4 Z Z Z Z) ?_
      cases hs2
      exact lnT () Z (su4 Z Z Z Z)
   ·refine G5 ?_
    obtain rfl:=os hs2
    exact lx Z px (su1 Z)
  ·rcases o12 with vo12_0|vo12_1
   ·rintro e s' H'-⟨rfl,hret⟩
    cases h
    exact hret
   ·rintro e s' H'-⟨rfl,rfl,rfl⟩
    refine B9<|s0<|A0 (C3 Z) Z<|A0 (B4 Z Z Z) Z<|A0 (F2 (f:=B7) Z) Z<|A0 (W0 Z Z) Z<|es (ra2 Z Z)<|wi h Z (fun hc13 h=>?_) fun hc13 h=>?_
    ·refine s0<|qm Z<|qm Z<|qm Z<|es (ra3 Z Z Z)<|C6 ?_
     obtain rfl:=os h
     exact retq trivial (A8 Z (A8 Z (A8 Z B6))) (A5 Z (A5 Z (A5 Z B5))) (A3 A4 (A3 A4 (A3 A4 B1)))
    ·refine B8<|B9<|s0<|A0 (C3 Z) Z<|A0 (B4 Z Z Z) Z<|A0 (F2 (f:=B7) Z) Z<|qm Z<|es (ra4 Z Z Z Z)<|C5<|oB h fun o26 ho26 h=>wl (fun s14=>[(1,(.ptr (H.length+0) 0)),(43,(.seq 4 (Zg B7 a0.Figures))),(44,(.i (Zh a0.Figures:Int))),(45,.i s14)]) (fun (q15:Unit) s14=>[(.cells (A9 a0))]) 1 (fun r e s' H'=>(match r with|(.inl v)=>e=.ret∧RetQ H [.tmp 2,.tmp 3,.tmp 4] [.i v.1,.i v.2.1,.i v.2.2] e s' H' | (.inr v)=>PX 2 [(1,(.ptr (H.length+0) 0))] (H++[(.cells (A9 a0))]) e s' H':Prop)) () ho26 Z Z (fun _ _=>rfl) (fun _=>rfl) Z (fun s14=>(bdc (J7 Z) (bdc G6 (bdc A4 (bdc A4 bdn))))) (fun q15 s14 ys14 hs14=>?_) ?_
     ·unfold A3f at hs14
      refine s0<|A0 (I3 Z Z) Z<|es (ra5 Z Z Z Z Z)<|B9<|wi hs14 Z (fun hc16 hs14=>?_) fun hc16 hs14=>?_
      ·refine B8<|B9<|C5<|sg 1 Z<|oB hs14 fun x17 hx17 hs14=>qm Z<|A0 (D4 (f:=B7) Z Z hx17) Z<|A0 (I0 Z Z) Z<|A0 J6 Z<|qm Z<|O6 (G0 (ds:=(B7 x17)) Z Z Z Z (E0 Z) Z) Z<|es (ra6 Z Z Z Z Z Z)<|s0<|oB hs14 fun x18 hx18 hs14=>A0 (C3 Z) Z<|A0 (B4 Z Z Z) Z<|qm Z<|B2 (rs:=[.i x18]) Z Z (A1 Z (A1 Z (A1 Z B3))) ((A71 (show Impl _ _ 45 [] [] (fun (y:PaFigure)=>A2r y) (fun (y:PaFigure)=>[(.agg (B7 y))]) (fun (y:ByteArray)=>[.s y]) from ⟨⟨B1,B1⟩,fun H' hle hag c y r hr=>(B9w hr).frz⟩) hx18).frz)<|qm Z<|es (ra7 Z Z Z Z Z Z Z)<|B9<|C5<|s0<|qm Z<|A0 (H9 Z Z) Z<|qm Z<|es (ra8 Z Z Z Z Z Z Z Z)<|wi hs14 Z (fun hc19 hs14=>?_) fun hc19 hs14=>?_
       ·refine B8<|s0<|qm Z<|A0 (H9 Z Z) Z<|es (ra7 Z Z Z Z Z Z Z)<|Q5 Z hc19<|s0<|qm Z<|qm Z<|qm Z<|qm Z<|qm Z<|es (ra3 Z Z Z)<|C6 ?_
        obtain rfl:=os hs14
        exact lx Z (ZE Z (retq trivial (A8 Z (A8 Z (A8 Z B6))) (A5 Z (A5 Z (A5 Z B5))) (A3 A4 (A3 A4 (A3 A4 B1))))) (Sub.refl _)
       ·refine s0<|oB hs14 fun x20 hx20 hs14=>oB hs14 fun x23 hx23 hs14=>A0 (C3 Z) Z<|A0 (B4 Z Z Z) Z<|A0 (C3 Z) Z<|A0 (B4 Z Z Z) Z<|A0 (J2 (rows:=Zg cI [x17.Day,x17.Until]) Z Z (D9 (fun _=>rfl) _)) Z<|B2 (rs:=[.b x20]) Z Z (A1 Z (A1 Z (A1 Z B3))) ((H8 hx20).frz)<|qm Z<|gp 5 69 (.b x23) 64 Z Z (fun hg21=>?_) (fun hg21=>?_) ?_
        ·obtain rfl:=os (bt hx23 hg21)
         exact nF Z hg21 Z<|nF Z hg21 Z<|nF Z hg21 Z<|G4 (D2 Z (by rw[hg21];rfl)) Z<|A0 (C1 Z hg21 Z) Z<|ge 5 Z Z Z
        ·refine oB (bf hx23 hg21) fun x22 hx22 hx23=>?_
         obtain rfl:=os hx23
         exact gF Z hg21<|A0 (C3 Z) Z<|gF Z hg21<|A0 (B4 Z Z Z) Z<|gF Z hg21<|A0 (J2 (rows:=Zg cI [x17.Needs]) Z Z (D9 (fun _=>rfl) _)) Z<|gF Z hg21<|B2 (rs:=[.b x22]) Z Z (A1 Z (A1 Z (A1 Z B3))) ((H8 hx22).frz)<|A0 (C0 Z hg21 Z) Z<|ge 5 Z Z Z
        refine qm Z<|es (ra8 Z Z Z Z Z Z Z Z)<|wi hs14 Z (fun hc24 hs14=>?_) fun hc24 hs14=>?_
        ·refine r0<|qm Z<|en (ra6 Z Z Z Z Z Z)<|s0<|qm Z<|A0 (R8 (v:=(.b true)) Z Z Z) Z<|es (ra7 Z Z Z Z Z Z Z)<|Q5 Z Z<|s0<|qm Z<|qm Z<|qm Z<|qm Z<|qm Z<|es (ra3 Z Z Z)<|C6 ?_
         obtain rfl:=os hs14
         exact lx Z (ZE Z (retq trivial (A8 Z (A8 Z (A8 Z B6))) (A5 Z (A5 Z (A5 Z B5))) (A3 A4 (A3 A4 (A3 A4 B1))))) (Sub.refl _)
        ·refine s0<|A0 (C3 Z) Z<|A0 (B4 Z Z Z) Z<|A0 (C3 Z) Z<|A0 (B4 Z Z Z) Z<|A0 (W0 Z Z) Z<|qm Z<|es (ra7 Z Z Z Z Z Z Z)<|wi hs14 Z (fun hc25 hs14=>?_) fun hc25 hs14=>?_
         ·refine r0<|qm Z<|en (ra6 Z Z Z Z Z Z)<|s0<|qm Z<|A0 (R8 (v:=(.b true)) Z Z Z) Z<|es (ra7 Z Z Z Z Z Z Z)<|Q5 Z Z<|s0<|qm Z<|qm Z<|qm Z<|qm Z<|qm Z<|es (ra3 Z Z Z)<|C6 ?_
          obtain rfl:=os hs14
          exact lx Z (ZE Z (retq trivial (A8 Z (A8 Z (A8 Z B6))) (A5 Z (A5 Z (A5 Z B5))) (A3 A4 (A3 A4 (A3 A4 B1))))) (Sub.refl _)
         ·refine B8<|s0<|qm Z<|A0 (H9 Z Z) Z<|es (ra7 Z Z Z Z Z Z Z)<|T0 Z hc19<|B8<|r0<|A0 (D8 Z Z) Z<|qm Z<|en (ra4 Z Z Z Z) ?_
          cases hs14
          exact lnT () Z (su4 Z Z Z Z)
      ·refine G5 ?_
       obtain rfl:=os hs14
       exact lx Z px (su1 Z)
     ·rcases o26 with vo26_0|vo26_1
      ·rintro e s' H'-⟨rfl,hret⟩
       cases h
       exact hret
      ·rintro e s' H'-⟨rfl,rfl,rfl⟩
       refine B9<|C5<|s0<|oB h fun x27 hx27 h=>A0 (C3 Z) Z<|A0 (B4 Z Z Z) Z<|A0 (J2 (rows:=Zg cI [a0.Purse]) Z Z (D9 (fun _=>rfl) _)) Z<|B2 (rs:=[.b x27]) Z Z (A1 Z (A1 Z (A1 Z B3))) ((H8 hx27).frz)<|qm Z<|es (ra2 Z Z)<|wi h Z (fun hc28 h=>?_) fun hc28 h=>?_
       ·refine s0<|qm Z<|qm Z<|qm Z<|es (ra3 Z Z Z)<|C6 ?_
        obtain rfl:=os h
        exact retq trivial (A8 Z (A8 Z (A8 Z B6))) (A5 Z (A5 Z (A5 Z B5))) (A3 A4 (A3 A4 (A3 A4 B1)))
       ·refine s0<|A0 (C3 Z) Z<|A0 (B4 Z Z Z) Z<|A0 (F2 (f:=D3) Z) Z<|A0 (W0 Z Z) Z<|qm Z<|es (ra2 Z Z)<|wi h Z (fun hc29 h=>?_) fun hc29 h=>?_
        ·refine s0<|qm Z<|qm Z<|qm Z<|es (ra3 Z Z Z)<|C6 ?_
         obtain rfl:=os h
         exact retq trivial (A8 Z (A8 Z (A8 Z B6))) (A5 Z (A5 Z (A5 Z B5))) (A3 A4 (A3 A4 (A3 A4 B1)))
        ·refine B8<|B9<|s0<|A0 (C3 Z) Z<|A0 (B4 Z Z Z) Z<|A0 (F2 (f:=D3) Z) Z<|qm Z<|es (ra3 Z Z Z)<|C5<|oB h fun o39 ho39 h=>wl (fun s30=>[(92,(.seq 2 (Zg D3 a0.Incomes))),(93,(.i (Zh a0.Incomes:Int))),(94,.i s30)]) (fun (q31:Unit) s30=>[(.cells (A9 a0))]) 1 (fun r e s' H'=>(match r with|(.inl v)=>e=.ret∧RetQ H [.tmp 2,.tmp 3,.tmp 4] [.i v.1,.i v.2.1,.i v.2.2] e s' H' | (.inr v)=>PX 6 [] (H++[(.cells (A9 a0))]) e s' H':Prop)) () ho39 Z Z (fun _ _=>rfl) (fun _=>rfl) Z (fun s30=>(bdc G6 (bdc A4 (bdc A4 bdn)))) (fun q31 s30 ys30 hs30=>?_) ?_
         ·unfold A3g at hs30
          refine s0<|A0 (I3 Z Z) Z<|es (ra4 Z Z Z Z)<|B9<|wi hs30 Z (fun hc32 hs30=>?_) fun hc32 hs30=>?_
          ·refine B8<|B9<|C5<|sg 1 Z<|oB hs30 fun x33 hx33 hs30=>qm Z<|A0 (D4 (f:=D3) Z Z hx33) Z<|A0 (I0 Z Z) Z<|A0 J6 Z<|qm Z<|O6 (G0 (ds:=(D3 x33)) Z Z Z Z (E0 Z) Z) Z<|es (ra5 Z Z Z Z Z)<|s0<|oB hs30 fun x34 hx34 hs30=>oB hs30 fun x37 hx37 hs30=>A0 (C3 Z) Z<|A0 (B4 Z Z Z) Z<|A0 (J2 (rows:=Zg cI [x33.Day]) Z Z (D9 (fun _=>rfl) _)) Z<|B2 (rs:=[.b x34]) Z Z (A1 Z (A1 Z (A1 Z B3))) ((H8 hx34).frz)<|qm Z<|gp 5 108 (.b x37) 103 Z Z (fun hg35=>?_) (fun hg35=>?_) ?_
           ·obtain rfl:=os (bt hx37 hg35)
            exact nF Z hg35 Z<|nF Z hg35 Z<|nF Z hg35 Z<|G4 (D2 Z (by rw[hg35];rfl)) Z<|A0 (C1 Z hg35 Z) Z<|ge 5 Z Z Z
           ·refine oB (bf hx37 hg35) fun x36 hx36 hx37=>?_
            obtain rfl:=os hx37
            exact gF Z hg35<|A0 (C3 Z) Z<|gF Z hg35<|A0 (B4 Z Z Z) Z<|gF Z hg35<|A0 (J2 (rows:=Zg cI [x33.Pence]) Z Z (D9 (fun _=>rfl) _)) Z<|gF Z hg35<|B2 (rs:=[.b x36]) Z Z (A1 Z (A1 Z (A1 Z B3))) ((H8 hx36).frz)<|A0 (C0 Z hg35 Z) Z<|ge 5 Z Z Z
           refine es (ra5 Z Z Z Z Z)<|wi hs30 Z (fun hc38 hs30=>?_) fun hc38 hs30=>?_
           ·refine s0<|qm Z<|qm Z<|qm Z<|qm Z<|es (ra3 Z Z Z)<|C6 ?_
            obtain rfl:=os hs30
            exact lx Z (ZE Z (retq trivial (A8 Z (A8 Z (A8 Z B6))) (A5 Z (A5 Z (A5 Z B5))) (A3 A4 (A3 A4 (A3 A4 B1))))) (Sub.refl _)
           ·refine B8<|r0<|A0 (D8 Z Z) Z<|qm Z<|en (ra3 Z Z Z) ?_
            cases hs30
            exact lnT () Z (su3 Z Z Z)
          ·refine G5 ?_
           obtain rfl:=os hs30
           exact lx Z px (.nil _)
         ·rcases o39 with vo39_0|vo39_1
          ·rintro e s' H'-⟨rfl,hret⟩
           cases h
           exact hret
          ·rintro e s' H'-⟨rfl,rfl,rfl⟩
           refine s0<|qm Z<|qm Z<|qm Z<|es (ra3 Z Z Z)<|C6 ?_
           obtain rfl:=os h
           exact retq trivial (A8 Z (A8 Z (A8 Z B6))) (A5 Z (A5 Z (A5 Z B5))) (A3 A4 (A3 A4 (A3 A4 B1)))
end Pw
end
