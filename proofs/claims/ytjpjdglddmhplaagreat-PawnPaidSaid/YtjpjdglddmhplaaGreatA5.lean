/- Texts that the claim stands on, one behind another. -/
import Derived.Test.YtjpjdglddmhplaaGreatA4
import Derived.Test.YtjpjdglddmhplaaGreatChecked
import Derived.KernelRfl
set_option linter.unusedVariables false
set_option linter.unusedSimpArgs false
set_option linter.unnecessarySimpa false
section
set_option maxRecDepth 100000
set_option maxHeartbeats 0
namespace Go.Proofs.YtjpjdglddmhplaaGreat
open Go Am Go.Proofs
theorem m9:C0 Tryz.prog Tryz.f9 Cd.a9 = true:= by kernel_rfl
theorem m10:C0 Tryz.prog Tryz.f10 Cd.a10 = true:= by kernel_rfl
theorem m11:C0 Tryz.prog Tryz.f11 Cd.a11 = true:= by kernel_rfl
theorem m12:C0 Tryz.prog Tryz.f12 Cd.a12 = true:= by kernel_rfl
theorem m14:C0 Tryz.prog Tryz.f14 Cd.a14 = true:= by kernel_rfl
theorem m16:C0 Tryz.prog Tryz.f16 Cd.a16 = true:= by kernel_rfl
theorem m18:C0 Tryz.prog Tryz.f18 Cd.a18 = true:= by kernel_rfl
theorem m19:C0 Tryz.prog Tryz.f19 Cd.a19 = true:= by kernel_rfl
theorem m20:C0 Tryz.prog Tryz.f20 Cd.a20 = true:= by kernel_rfl
theorem m22:C0 Tryz.prog Tryz.f22 Cd.a22 = true:= by kernel_rfl
theorem m24:C0 Tryz.prog Tryz.f24 Cd.a24 = true:= by kernel_rfl
theorem m26:C0 Tryz.prog Tryz.f26 Cd.a26 = true:= by kernel_rfl
theorem m28:C0 Tryz.prog Tryz.f28 Cd.a28 = true:= by kernel_rfl
theorem m29:C0 Tryz.prog Tryz.f29 Cd.a29 = true:= by kernel_rfl
theorem m31:C0 Tryz.prog Tryz.f31 Cd.a31 = true:= by kernel_rfl
theorem m33:C0 Tryz.prog Tryz.f33 Cd.a33 = true:= by kernel_rfl
theorem m37:C0 Tryz.prog Tryz.f37 Cd.a37 = true:= by kernel_rfl
theorem m38:C0 Tryz.prog Tryz.f38 Cd.a38 = true:= by kernel_rfl
theorem m41:C0 Tryz.prog Tryz.f41 Cd.a41 = true:= by kernel_rfl
theorem m42:C0 Tryz.prog Tryz.f42 Cd.a42 = true:= by kernel_rfl
theorem m43:C0 Tryz.prog Tryz.f43 Cd.a43 = true:= by kernel_rfl
theorem m44:C0 Tryz.prog Tryz.f44 Cd.a44 = true:= by kernel_rfl
theorem m45:C0 Tryz.prog Tryz.f45 Cd.a45 = true:= by kernel_rfl
theorem m46:C0 Tryz.prog Tryz.f46 Cd.a46 = true:= by kernel_rfl
theorem m47:C0 Tryz.prog Tryz.f47 Cd.a47 = true:= by kernel_rfl
theorem m48:C0 Tryz.prog Tryz.f48 Cd.a48 = true:= by kernel_rfl
theorem m49:C0 Tryz.prog Tryz.f49 Cd.a49 = true:= by kernel_rfl
theorem m50:C0 Tryz.prog Tryz.f50 Cd.a50 = true:= by kernel_rfl
theorem m51:C0 Tryz.prog Tryz.f51 Cd.a51 = true:= by kernel_rfl
theorem m52:C0 Tryz.prog Tryz.f52 Cd.a52 = true:= by kernel_rfl
theorem m54:C0 Tryz.prog Tryz.f54 Cd.a54 = true:= by kernel_rfl
theorem m55:C0 Tryz.prog Tryz.f55 Cd.a55 = true:= by kernel_rfl
theorem m56:C0 Tryz.prog Tryz.f56 Cd.a56 = true:= by kernel_rfl
theorem m57:C0 Tryz.prog Tryz.f57 Cd.a57 = true:= by kernel_rfl
theorem m58:C0 Tryz.prog Tryz.f58 Cd.a58 = true:= by kernel_rfl
theorem m59:C0 Tryz.prog Tryz.f59 Cd.a59 = true:= by kernel_rfl
theorem m60:C0 Tryz.prog Tryz.f60 Cd.a60 = true:= by kernel_rfl
theorem m61:C0 Tryz.prog Tryz.f61 Cd.a61 = true:= by kernel_rfl
theorem m62:C0 Tryz.prog Tryz.f62 Cd.a62 = true:= by kernel_rfl
theorem m63:C0 Tryz.prog Tryz.f63 Cd.a63 = true:= by kernel_rfl
theorem m66:C0 Tryz.prog Tryz.f66 Cd.a66 = true:= by kernel_rfl
theorem m68:C0 Tryz.prog Tryz.f68 Cd.a68 = true:= by kernel_rfl
theorem m69:C0 Tryz.prog Tryz.f69 Cd.a69 = true:= by kernel_rfl
theorem m70:C0 Tryz.prog Tryz.f70 Cd.a70 = true:= by kernel_rfl
theorem m71:C0 Tryz.prog Tryz.f71 Cd.a71 = true:= by kernel_rfl
theorem m72:C0 Tryz.prog Tryz.f72 Cd.a72 = true:= by kernel_rfl
theorem m74:C0 Tryz.prog Tryz.f74 Cd.a74 = true:= by kernel_rfl
theorem m75:C0 Tryz.prog Tryz.f75 Cd.a75 = true:= by kernel_rfl
theorem m76:C0 Tryz.prog Tryz.f76 Cd.a76 = true:= by kernel_rfl
theorem m78:C0 Tryz.prog Tryz.f78 Cd.a78 = true:= by kernel_rfl
theorem m79:C0 Tryz.prog Tryz.f79 Cd.a79 = true:= by kernel_rfl
theorem m81:C0 Tryz.prog Tryz.f81 Cd.a81 = true:= by kernel_rfl
theorem m82:C0 Tryz.prog Tryz.f82 Cd.a82 = true:= by kernel_rfl
theorem m83:C0 Tryz.prog Tryz.f83 Cd.a83 = true:= by kernel_rfl
theorem m84:C0 Tryz.prog Tryz.f84 Cd.a84 = true:= by kernel_rfl
theorem m85:C0 Tryz.prog Tryz.f85 Cd.a85 = true:= by kernel_rfl
theorem m86:C0 Tryz.prog Tryz.f86 Cd.a86 = true:= by kernel_rfl
theorem m87:C0 Tryz.prog Tryz.f87 Cd.a87 = true:= by kernel_rfl
theorem m88:C0 Tryz.prog Tryz.f88 Cd.a88 = true:= by kernel_rfl
theorem m89:C0 Tryz.prog Tryz.f89 Cd.a89 = true:= by kernel_rfl
theorem m90:C0 Tryz.prog Tryz.f90 Cd.a90 = true:= by kernel_rfl
theorem m91:C0 Tryz.prog Tryz.f91 Cd.a91 = true:= by kernel_rfl
theorem m92:C0 Tryz.prog Tryz.f92 Cd.a92 = true:= by kernel_rfl
theorem m93:C0 Tryz.prog Tryz.f93 Cd.a93 = true:= by kernel_rfl
theorem m94:C0 Tryz.prog Tryz.f94 Cd.a94 = true:= by kernel_rfl
theorem m95:C0 Tryz.prog Tryz.f95 Cd.a95 = true:= by kernel_rfl
theorem m96:C0 Tryz.prog Tryz.f96 Cd.a96 = true:= by kernel_rfl
theorem m97:C0 Tryz.prog Tryz.f97 Cd.a97 = true:= by kernel_rfl
theorem m98:C0 Tryz.prog Tryz.f98 Cd.a98 = true:= by kernel_rfl
theorem m99:C0 Tryz.prog Tryz.f99 Cd.a99 = true:= by kernel_rfl
theorem m100:C0 Tryz.prog Tryz.f100 Cd.a100 = true:= by kernel_rfl
theorem m101:C0 Tryz.prog Tryz.f101 Cd.a101 = true:= by kernel_rfl
theorem m102:C0 Tryz.prog Tryz.f102 Cd.a102 = true:= by kernel_rfl
theorem m103:C0 Tryz.prog Tryz.f103 Cd.a103 = true:= by kernel_rfl
theorem m104:C0 Tryz.prog Tryz.f104 Cd.a104 = true:= by kernel_rfl
theorem m105:C0 Tryz.prog Tryz.f105 Cd.a105 = true:= by kernel_rfl
theorem m106:C0 Tryz.prog Tryz.f106 Cd.a106 = true:= by kernel_rfl
theorem m108:C0 Tryz.prog Tryz.f108 Cd.a108 = true:= by kernel_rfl
theorem m109:C0 Tryz.prog Tryz.f109 Cd.a109 = true:= by kernel_rfl
theorem m110:C0 Tryz.prog Tryz.f110 Cd.a110 = true:= by kernel_rfl
theorem m111:C0 Tryz.prog Tryz.f111 Cd.a111 = true:= by kernel_rfl
theorem m112:C0 Tryz.prog Tryz.f112 Cd.a112 = true:= by kernel_rfl
theorem m113:C0 Tryz.prog Tryz.f113 Cd.a113 = true:= by kernel_rfl
theorem m114:C0 Tryz.prog Tryz.f114 Cd.a114 = true:= by kernel_rfl
theorem m115:C0 Tryz.prog Tryz.f115 Cd.a115 = true:= by kernel_rfl
theorem m116:C0 Tryz.prog Tryz.f116 Cd.a116 = true:= by kernel_rfl
theorem m117:C0 Tryz.prog Tryz.f117 Cd.a117 = true:= by kernel_rfl
theorem m119:C0 Tryz.prog Tryz.f119 Cd.a119 = true:= by kernel_rfl
theorem m120:C0 Tryz.prog Tryz.f120 Cd.a120 = true:= by kernel_rfl
theorem m121:C0 Tryz.prog Tryz.f121 Cd.a121 = true:= by kernel_rfl
theorem m122:C0 Tryz.prog Tryz.f122 Cd.a122 = true:= by kernel_rfl
theorem m123:C0 Tryz.prog Tryz.f123 Cd.a123 = true:= by kernel_rfl
theorem m124:C0 Tryz.prog Tryz.f124 Cd.a124 = true:= by kernel_rfl
theorem m125:C0 Tryz.prog Tryz.f125 Cd.a125 = true:= by kernel_rfl
theorem m126:C0 Tryz.prog Tryz.f126 Cd.a126 = true:= by kernel_rfl
theorem m127:C0 Tryz.prog Tryz.f127 Cd.a127 = true:= by kernel_rfl
theorem m128:C0 Tryz.prog Tryz.f128 Cd.a128 = true:= by kernel_rfl
theorem m129:C0 Tryz.prog Tryz.f129 Cd.a129 = true:= by kernel_rfl
theorem m130:C0 Tryz.prog Tryz.f130 Cd.a130 = true:= by kernel_rfl
theorem m131:C0 Tryz.prog Tryz.f131 Cd.a131 = true:= by kernel_rfl
theorem m132:C0 Tryz.prog Tryz.f132 Cd.a132 = true:= by kernel_rfl
theorem m133:C0 Tryz.prog Tryz.f133 Cd.a133 = true:= by kernel_rfl
theorem m134:C0 Tryz.prog Tryz.f134 Cd.a134 = true:= by kernel_rfl
theorem m135:C0 Tryz.prog Tryz.f135 Cd.a135 = true:= by kernel_rfl
theorem m136:C0 Tryz.prog Tryz.f136 Cd.a136 = true:= by kernel_rfl
theorem m137:C0 Tryz.prog Tryz.f137 Cd.a137 = true:= by kernel_rfl
theorem m138:C0 Tryz.prog Tryz.f138 Cd.a138 = true:= by kernel_rfl
theorem D88:B9p Tryz.prog Cd.tab:= by
 intro i af h
 unfold Cd.tab at h
 split at h
 ·cases h; exact ⟨Tryz.f9,Tryz.func9,m9⟩
 ·cases h; exact ⟨Tryz.f10,Tryz.func10,m10⟩
 ·cases h; exact ⟨Tryz.f11,Tryz.func11,m11⟩
 ·cases h; exact ⟨Tryz.f12,Tryz.func12,m12⟩
 ·cases h; exact ⟨Tryz.f14,Tryz.func14,m14⟩
 ·cases h; exact ⟨Tryz.f16,Tryz.func16,m16⟩
 ·cases h; exact ⟨Tryz.f18,Tryz.func18,m18⟩
 ·cases h; exact ⟨Tryz.f19,Tryz.func19,m19⟩
 ·cases h; exact ⟨Tryz.f20,Tryz.func20,m20⟩
 ·cases h; exact ⟨Tryz.f22,Tryz.func22,m22⟩
 ·cases h; exact ⟨Tryz.f24,Tryz.func24,m24⟩
 ·cases h; exact ⟨Tryz.f26,Tryz.func26,m26⟩
 ·cases h; exact ⟨Tryz.f28,Tryz.func28,m28⟩
 ·cases h; exact ⟨Tryz.f29,Tryz.func29,m29⟩
 ·cases h; exact ⟨Tryz.f31,Tryz.func31,m31⟩
 ·cases h; exact ⟨Tryz.f33,Tryz.func33,m33⟩
 ·cases h; exact ⟨Tryz.f37,Tryz.func37,m37⟩
 ·cases h; exact ⟨Tryz.f38,Tryz.func38,m38⟩
 ·cases h; exact ⟨Tryz.f41,Tryz.func41,m41⟩
 ·cases h; exact ⟨Tryz.f42,Tryz.func42,m42⟩
 ·cases h; exact ⟨Tryz.f43,Tryz.func43,m43⟩
 ·cases h; exact ⟨Tryz.f44,Tryz.func44,m44⟩
 ·cases h; exact ⟨Tryz.f45,Tryz.func45,m45⟩
 ·cases h; exact ⟨Tryz.f46,Tryz.func46,m46⟩
 ·cases h; exact ⟨Tryz.f47,Tryz.func47,m47⟩
 ·cases h; exact ⟨Tryz.f48,Tryz.func48,m48⟩
 ·cases h; exact ⟨Tryz.f49,Tryz.func49,m49⟩
 ·cases h; exact ⟨Tryz.f50,Tryz.func50,m50⟩
 ·cases h; exact ⟨Tryz.f51,Tryz.func51,m51⟩
 ·cases h; exact ⟨Tryz.f52,Tryz.func52,m52⟩
 ·cases h; exact ⟨Tryz.f54,Tryz.func54,m54⟩
 ·cases h; exact ⟨Tryz.f55,Tryz.func55,m55⟩
 ·cases h; exact ⟨Tryz.f56,Tryz.func56,m56⟩
 ·cases h; exact ⟨Tryz.f57,Tryz.func57,m57⟩
 ·cases h; exact ⟨Tryz.f58,Tryz.func58,m58⟩
 ·cases h; exact ⟨Tryz.f59,Tryz.func59,m59⟩
 ·cases h; exact ⟨Tryz.f60,Tryz.func60,m60⟩
 ·cases h; exact ⟨Tryz.f61,Tryz.func61,m61⟩
 ·cases h; exact ⟨Tryz.f62,Tryz.func62,m62⟩
 ·cases h; exact ⟨Tryz.f63,Tryz.func63,m63⟩
 ·cases h; exact ⟨Tryz.f66,Tryz.func66,m66⟩
 ·cases h; exact ⟨Tryz.f68,Tryz.func68,m68⟩
 ·cases h; exact ⟨Tryz.f69,Tryz.func69,m69⟩
 ·cases h; exact ⟨Tryz.f70,Tryz.func70,m70⟩
 ·cases h; exact ⟨Tryz.f71,Tryz.func71,m71⟩
 ·cases h; exact ⟨Tryz.f72,Tryz.func72,m72⟩
 ·cases h; exact ⟨Tryz.f74,Tryz.func74,m74⟩
 ·cases h; exact ⟨Tryz.f75,Tryz.func75,m75⟩
 ·cases h; exact ⟨Tryz.f76,Tryz.func76,m76⟩
 ·cases h; exact ⟨Tryz.f78,Tryz.func78,m78⟩
 ·cases h; exact ⟨Tryz.f79,Tryz.func79,m79⟩
 ·cases h; exact ⟨Tryz.f81,Tryz.func81,m81⟩
 ·cases h; exact ⟨Tryz.f82,Tryz.func82,m82⟩
 ·cases h; exact ⟨Tryz.f83,Tryz.func83,m83⟩
 ·cases h; exact ⟨Tryz.f84,Tryz.func84,m84⟩
 ·cases h; exact ⟨Tryz.f85,Tryz.func85,m85⟩
 ·cases h; exact ⟨Tryz.f86,Tryz.func86,m86⟩
 ·cases h; exact ⟨Tryz.f87,Tryz.func87,m87⟩
 ·cases h; exact ⟨Tryz.f88,Tryz.func88,m88⟩
 ·cases h; exact ⟨Tryz.f89,Tryz.func89,m89⟩
 ·cases h; exact ⟨Tryz.f90,Tryz.func90,m90⟩
 ·cases h; exact ⟨Tryz.f91,Tryz.func91,m91⟩
 ·cases h; exact ⟨Tryz.f92,Tryz.func92,m92⟩
 ·cases h; exact ⟨Tryz.f93,Tryz.func93,m93⟩
 ·cases h; exact ⟨Tryz.f94,Tryz.func94,m94⟩
 ·cases h; exact ⟨Tryz.f95,Tryz.func95,m95⟩
 ·cases h; exact ⟨Tryz.f96,Tryz.func96,m96⟩
 ·cases h; exact ⟨Tryz.f97,Tryz.func97,m97⟩
 ·cases h; exact ⟨Tryz.f98,Tryz.func98,m98⟩
 ·cases h; exact ⟨Tryz.f99,Tryz.func99,m99⟩
 ·cases h; exact ⟨Tryz.f100,Tryz.func100,m100⟩
 ·cases h; exact ⟨Tryz.f101,Tryz.func101,m101⟩
 ·cases h; exact ⟨Tryz.f102,Tryz.func102,m102⟩
 ·cases h; exact ⟨Tryz.f103,Tryz.func103,m103⟩
 ·cases h; exact ⟨Tryz.f104,Tryz.func104,m104⟩
 ·cases h; exact ⟨Tryz.f105,Tryz.func105,m105⟩
 ·cases h; exact ⟨Tryz.f106,Tryz.func106,m106⟩
 ·cases h; exact ⟨Tryz.f108,Tryz.func108,m108⟩
 ·cases h; exact ⟨Tryz.f109,Tryz.func109,m109⟩
 ·cases h; exact ⟨Tryz.f110,Tryz.func110,m110⟩
 ·cases h; exact ⟨Tryz.f111,Tryz.func111,m111⟩
 ·cases h; exact ⟨Tryz.f112,Tryz.func112,m112⟩
 ·cases h; exact ⟨Tryz.f113,Tryz.func113,m113⟩
 ·cases h; exact ⟨Tryz.f114,Tryz.func114,m114⟩
 ·cases h; exact ⟨Tryz.f115,Tryz.func115,m115⟩
 ·cases h; exact ⟨Tryz.f116,Tryz.func116,m116⟩
 ·cases h; exact ⟨Tryz.f117,Tryz.func117,m117⟩
 ·cases h; exact ⟨Tryz.f119,Tryz.func119,m119⟩
 ·cases h; exact ⟨Tryz.f120,Tryz.func120,m120⟩
 ·cases h; exact ⟨Tryz.f121,Tryz.func121,m121⟩
 ·cases h; exact ⟨Tryz.f122,Tryz.func122,m122⟩
 ·cases h; exact ⟨Tryz.f123,Tryz.func123,m123⟩
 ·cases h; exact ⟨Tryz.f124,Tryz.func124,m124⟩
 ·cases h; exact ⟨Tryz.f125,Tryz.func125,m125⟩
 ·cases h; exact ⟨Tryz.f126,Tryz.func126,m126⟩
 ·cases h; exact ⟨Tryz.f127,Tryz.func127,m127⟩
 ·cases h; exact ⟨Tryz.f128,Tryz.func128,m128⟩
 ·cases h; exact ⟨Tryz.f129,Tryz.func129,m129⟩
 ·cases h; exact ⟨Tryz.f130,Tryz.func130,m130⟩
 ·cases h; exact ⟨Tryz.f131,Tryz.func131,m131⟩
 ·cases h; exact ⟨Tryz.f132,Tryz.func132,m132⟩
 ·cases h; exact ⟨Tryz.f133,Tryz.func133,m133⟩
 ·cases h; exact ⟨Tryz.f134,Tryz.func134,m134⟩
 ·cases h; exact ⟨Tryz.f135,Tryz.func135,m135⟩
 ·cases h; exact ⟨Tryz.f136,Tryz.func136,m136⟩
 ·cases h; exact ⟨Tryz.f137,Tryz.func137,m137⟩
 ·cases h; exact ⟨Tryz.f138,Tryz.func138,m138⟩
 ·cases h
end Go.Proofs.YtjpjdglddmhplaaGreat
end
section
set_option maxRecDepth 100000
set_option maxHeartbeats 0
namespace Pw
open Go Am Go.Proofs.YtjpjdglddmhplaaGreat.Cd
structure PaGown where
 mk ::
 (Name:ByteArray)
 (Looks:Int)
 (Pawn:Bool)
 (Loan:Int)
 (Rate:Int)
 (Fee:Int)
 (Ago:Int)
 (Last:Int)
 deriving DecidableEq
def C1 (x:PaGown):List AV:=[.s x.Name,.i x.Looks,.b x.Pawn,.i x.Loan,.i x.Rate,.i x.Fee,.i x.Ago,.i x.Last]
structure PaFigure where
 mk ::
 (Name:ByteArray)
 (Day:Int)
 (Until:Int)
 (Needs:Int)
 deriving DecidableEq
def B3 (x:PaFigure):List AV:=[.s x.Name,.i x.Day,.i x.Until,.i x.Needs]
structure PaIncome where
 mk ::
 (Day:Int)
 (Pence:Int)
 deriving DecidableEq
def D1 (x:PaIncome):List AV:=[.i x.Day,.i x.Pence]
structure PaShow where
 mk ::
 (Gowns:(List PaGown))
 (Figures:(List PaFigure))
 (Purse:Int)
 (Incomes:(List PaIncome))
 deriving DecidableEq
def B1 (x:PaShow):List AV:=[(.seq 8 (List.map C1 x.Gowns)),(.seq 4 (List.map B3 x.Figures)),.i x.Purse,(.seq 2 (List.map D1 x.Incomes))]
structure law04_Asked where
 mk ::
 (Gown:Int)
 (Figure:Int)
 (Day:Int)
 deriving DecidableEq
structure PaUse where
 mk ::
 (Gown:Int)
 (How:Int)
 (Day:Int)
 deriving DecidableEq
def A7 (x:PaUse):List AV:=[.i x.Gown,.i x.How,.i x.Day]
structure pawn_way where
 mk ::
 deriving DecidableEq
structure pawn_show where
 mk ::
 (PaShow:PaShow)
 (ways_:(Ar3 pawn_way))
 (days_:(List Int))
 deriving DecidableEq
structure pawn_found where
 mk ::
 (plan_:(List PaUse))
 (without_:Int)
 (cost_:Int)
 (short_:Int)
 (had_:(Ar3 Int))
 deriving DecidableEq
def C4 (x:pawn_found):List AV:=[(.seq 3 (List.map A7 x.plan_)),.i x.without_,.i x.cost_,.i x.short_,.i x.had_.x0,.i x.had_.x1,.i x.had_.x2]
def A0h (a0:(List ByteArray)) (a1:ByteArray) (s1:Int):Option (Int ⊕ (Int ⊕ Unit)) :=
 if (decide (s1 < (List.length a0:Int))) = true then
  (idx a0 s1).bind fun x4 =>
  if (eqS x4 a1) = true then
  some (.inr (.inl s1))
  else
  some (.inl (w64 (s1 + 1)))
 else
  some (.inr (.inr ()))
def A5y (a0:(List ByteArray)) (a1:ByteArray):Option Int :=
 (loop (A0h a0 a1) 0).bind fun (o6:(Int ⊕ Unit)) =>
 match o6 with
 | (.inl vo6_0) =>
  some vo6_0
 | (.inr vo6_1) =>
  some (-1)
theorem B7q {c:Sc} {H:A1} {a0:(List ByteArray)} {a1:ByteArray} {r:Int} (h:A5y a0 a1 = some r) :
  E1 tab c H (.fn (.func 89) [] []) [(.seq 1 (List.map cS a0)),.s a1] [.i r]:= by
 unfold A5y at h
 refine cE rfl rfl<|s0<|qm rfl<|es (ra2 rfl rfl)<|C2<|s0<|qm rfl<|es (ra3 rfl rfl rfl)<|C6<|oB h fun o6 ho6 h=>wl (fun s1=>[(0,(.seq 1 (List.map cS a0))),(1,.s a1),(5,.i s1)]) (fun (q2:Unit) s1=>[]) 0 (fun r e s' H'=>(match r with | (.inl v)=>e = .ret∧RetQ H [.tmp 4] [.i v] e s' H' | (.inr v)=>PX 0 [] (H++[]) e s' H':Prop)) () ho6 rfl rfl (fun _ _=>rfl) (fun _=>rfl) rfl (fun s1=>(bdc K0 (bdc A4 (bdc A4 bdn)))) (fun q2 s1 ys1 hs1=>?_) ?_
 ·unfold A0h at hs1
  refine C2<|s0<|qm rfl<|qm rfl<|A0 (F6 (f:=cS) rfl) rfl<|A0 (I0 rfl rfl) rfl<|es (ra4 rfl rfl rfl rfl)<|wi hs1 rfl (fun hc3 hs1=>?_) fun hc3 hs1=>?_
  ·refine C3<|C2<|C6<|s0<|oB hs1 fun x4 hx4 hs1=>qm rfl<|qm rfl<|A0 (E9 (f:=cS) rfl rfl hx4) rfl<|A0 (L2 rfl rfl) rfl<|qm rfl<|A0 (D0i rfl rfl) rfl<|es (ra4 rfl rfl rfl rfl)<|wi hs1 rfl (fun hc5 hs1=>?_) fun hc5 hs1=>?_
   ·refine s0<|qm rfl<|qm rfl<|es (ra1 rfl)<|C5 ?_
    obtain rfl:=os hs1
    exact lx rfl (And.intro rfl (retq trivial (A6 rfl B6) (A5 rfl B5) (A3 A4 A8))) (Sub.refl _)
   ·refine C3<|r0<|qm rfl<|A0 (F2 rfl rfl) rfl<|qm rfl<|en (ra3 rfl rfl rfl) ?_
    cases hs1
    exact lnT () rfl (su3 rfl rfl rfl)
  ·refine G6 ?_
   obtain rfl:=os hs1
   exact lx rfl px (.nil _)
 ·rcases o6 with vo6_0 | vo6_1
  ·rintro e s' H' - ⟨rfl,hret⟩
   cases h
   exact hret
  ·rintro e s' H' - ⟨rfl,rfl,rfl⟩
   refine s0<|qm rfl<|es (ra1 rfl)<|C5 ?_
   obtain rfl:=os h
   exact retq trivial (A6 rfl B6) (A5 rfl B5) (A3 A4 A8)
def A2q (a0:Int) (a1:Int) (a2:Int):Option Bool :=
 some ((decide (a0 ≥ a1)) && (decide (a0≤a2)))
theorem A77 {c:Sc} {H:A1} {a0:Int} {a1:Int} {a2:Int} {r:Bool} (h:A2q a0 a1 a2 = some r) :
  E1 tab c H (.fn (.func 113) [] []) [.i a0,.i a1,.i a2] [.b r]:= by
 unfold A2q at h
 refine cE rfl rfl<|s0<|qm rfl<|es (ra3 rfl rfl rfl)<|s0<|qm rfl<|qm rfl<|A0 (A71 rfl rfl) rfl<|qm rfl<|gp 4 14 (.b ((decide (a0 ≥ a1)) && (decide (a0≤a2)))) 10 rfl rfl (fun hg1=>?_) (fun hg1=>?_) ?_
 ·exact gT rfl hg1<|qm rfl<|gT rfl hg1<|qm rfl<|gT rfl hg1<|A0 (A4a rfl rfl) rfl<|A0 (C8 rfl hg1 rfl) rfl<|ge 4 (by rw [hg1]; rfl) rfl rfl
 ·exact nT rfl hg1 rfl<|nT rfl hg1 rfl<|nT rfl hg1 rfl<|A0 (C7 rfl hg1 rfl) rfl<|ge 4 (by rw [hg1]; rfl) rfl rfl
 refine qm rfl<|es (ra1 rfl)<|C5 ?_
 obtain rfl:=os h
 exact retq trivial (A6 rfl B6) (A5 rfl B5) (A3 A4 A8)
def A1i (a0:ByteArray) (s3:Int):Option (Int ⊕ (Bool ⊕ Unit)) :=
 if (decide (s3 < (ByteArray.size a0:Int))) = true then
  (B23 a0 s3).bind fun x6 =>
  (A2q (w64 x6) 97 122).bind fun x7 =>
  (B23 a0 s3).bind fun x8 =>
  (A2q (w64 x8) 48 57).bind fun x9 =>
  (if x9 = true then
  some true
  else
  (B23 a0 s3).bind fun x11 =>
  some (x11 == 46)).bind fun x12 =>
  if ((!x7) && ((s3 == 0) || (!x12))) = true then
  some (.inr (.inl false))
  else
  some (.inl (w64 (s3 + 1)))
 else
  some (.inr (.inr ()))
def A5c (a0:ByteArray):Option Bool :=
 if (((ByteArray.size a0:Int) == 0) || (decide ((ByteArray.size a0:Int) > 16))) = true then
  some false
 else
  (loop (A1i a0) 0).bind fun (o16:(Bool ⊕ Unit)) =>
  match o16 with
  | (.inl vo16_0) =>
  some vo16_0
  | (.inr vo16_1) =>
  some true
theorem B88 {c:Sc} {H:A1} {a0:ByteArray} {r:Bool} (h:A5c a0 = some r) :
  E1 tab c H (.fn (.func 88) [] []) [.s a0] [.b r]:= by
 unfold A5c at h
 refine cE rfl rfl<|s0<|qm rfl<|es (ra1 rfl)<|C2<|s0<|qm rfl<|A0 (C12 rfl) rfl<|A0 (G0 rfl rfl) rfl<|qm rfl<|gp 4 13 (.b (((ByteArray.size a0:Int) == 0) || (decide ((ByteArray.size a0:Int) > 16)))) 9 rfl rfl (fun hg1=>?_) (fun hg1=>?_) ?_
 ·exact nF rfl hg1 rfl<|nF rfl hg1 rfl<|nF rfl hg1 rfl<|A0 (C8 rfl hg1 rfl) rfl<|ge 4 (by rw [hg1]; rfl) rfl rfl
 ·exact gF rfl hg1<|qm rfl<|gF rfl hg1<|A0 (C12 rfl) rfl<|gF rfl hg1<|A0 (Y8 rfl rfl) rfl<|A0 (C7 rfl hg1 rfl) rfl<|ge 4 (by rw [hg1]; rfl) rfl rfl
 refine es (ra2 rfl rfl)<|wi h rfl (fun hc2 h=>?_) fun hc2 h=>?_
 ·refine s0<|qm rfl<|es (ra1 rfl)<|C5 ?_
  obtain rfl:=os h
  exact retq trivial (A6 rfl B6) (A5 rfl B5) (A3 A4 A8)
 ·refine C3<|C2<|s0<|qm rfl<|es (ra2 rfl rfl)<|C6<|oB h fun o16 ho16 h=>wl (fun s3=>[(0,.s a0),(3,.i s3)]) (fun (q4:Unit) s3=>[]) 0 (fun r e s' H'=>(match r with | (.inl v)=>e = .ret∧RetQ H [.tmp 2] [.b v] e s' H' | (.inr v)=>PX 0 [] (H++[]) e s' H':Prop)) () ho16 rfl rfl (fun _ _=>rfl) (fun _=>rfl) rfl (fun s3=>(bdc A4 (bdc A4 bdn))) (fun q4 s3 ys3 hs3=>?_) ?_
  ·unfold A1i at hs3
   refine C2<|s0<|qm rfl<|qm rfl<|A0 (C12 rfl) rfl<|A0 (I0 rfl rfl) rfl<|es (ra3 rfl rfl rfl)<|wi hs3 rfl (fun hc5 hs3=>?_) fun hc5 hs3=>?_
   ·refine C3<|C2<|C6<|s0<|oB hs3 fun x6 hx6 hs3=>oB hs3 fun x7 hx7 hs3=>qm rfl<|qm rfl<|A0 (A8u rfl rfl hx6) rfl<|A0 (A7q rfl) rfl<|B8 (rs:=[.b x7]) rfl rfl (A2 rfl (A2 rfl (A2 rfl B7))) ((A77 hx7).frz)<|qm rfl<|es (ra3 rfl rfl rfl)<|s0<|oB hs3 fun x8 hx8 hs3=>oB hs3 fun x9 hx9 hs3=>oB hs3 fun x12 hx12 hs3=>qm rfl<|qm rfl<|A0 (A8u rfl rfl hx8) rfl<|A0 (A7q rfl) rfl<|B8 (rs:=[.b x9]) rfl rfl (A2 rfl (A2 rfl (A2 rfl B7))) ((A77 hx9).frz)<|qm rfl<|gp 5 35 (.b x12) 30 rfl rfl (fun hg10=>?_) (fun hg10=>?_) ?_
    ·obtain rfl:=os (bt hx12 hg10)
     exact nF rfl hg10 rfl<|nF rfl hg10 rfl<|nF rfl hg10 rfl<|nF rfl hg10 rfl<|A0 (C8 rfl hg10 rfl) rfl<|ge 5 rfl rfl rfl
    ·refine oB (bf hx12 hg10) fun x11 hx11 hx12=>?_
     obtain rfl:=os hx12
     exact gF rfl hg10<|qm rfl<|gF rfl hg10<|qm rfl<|gF rfl hg10<|A0 (A8u rfl rfl hx11) rfl<|gF rfl hg10<|A0 (G0 rfl rfl) rfl<|A0 (C7 rfl hg10 rfl) rfl<|ge 5 rfl rfl rfl
    refine qm rfl<|es (ra4 rfl rfl rfl rfl)<|s0<|qm rfl<|A0 (Q8 rfl) rfl<|qm rfl<|gp 7 45 (.b ((!x7) && ((s3 == 0) || (!x12)))) 38 rfl rfl (fun hg13=>?_) (fun hg13=>?_) ?_
    ·refine gT rfl hg13<|qm rfl<|gT rfl hg13<|A0 (G0 rfl rfl) rfl<|gT rfl hg13<|qm rfl<|gq 3 44 (.b ((s3 == 0) || (!x12))) 41 rfl rfl (fun hg14=>?_) (fun hg14=>?_) ?_
     ·exact nF rfl hg14 rfl<|nF rfl hg14 rfl<|gT rfl hg13<|A0 (C8 rfl hg14 rfl) rfl<|ge 3 (by rw [hg14]; rfl) rfl rfl
     ·exact gF rfl hg14<|qm rfl<|gF rfl hg14<|A0 (Q8 rfl) rfl<|gT rfl hg13<|A0 (C7 rfl hg14 rfl) rfl<|ge 3 (by rw [hg14]; rfl) rfl rfl
     exact A0 (C8 rfl hg13 rfl) rfl<|ge 5 (by rw [hg13]; rfl) rfl rfl
    ·exact nT rfl hg13 rfl<|nT rfl hg13 rfl<|nT rfl hg13 rfl<|nX rfl rfl<|nX rfl rfl<|nT rfl hg13 rfl<|A0 (C7 rfl hg13 rfl) rfl<|ge 7 (by rw [hg13]; rfl) rfl rfl
    refine es (ra3 rfl rfl rfl)<|wi hs3 rfl (fun hc15 hs3=>?_) fun hc15 hs3=>?_
    ·refine s0<|qm rfl<|es (ra1 rfl)<|C5 ?_
     obtain rfl:=os hs3
     exact lx rfl (And.intro rfl (retq trivial (A6 rfl B6) (A5 rfl B5) (A3 A4 A8))) (Sub.refl _)
    ·refine C3<|r0<|qm rfl<|A0 (F2 rfl rfl) rfl<|qm rfl<|en (ra2 rfl rfl) ?_
     cases hs3
     exact lnT () rfl (su2 rfl rfl)
   ·refine G6 ?_
    obtain rfl:=os hs3
    exact lx rfl px (.nil _)
  ·rcases o16 with vo16_0 | vo16_1
   ·rintro e s' H' - ⟨rfl,hret⟩
    cases h
    exact hret
   ·rintro e s' H' - ⟨rfl,rfl,rfl⟩
    refine s0<|qm rfl<|es (ra1 rfl)<|C5 ?_
    obtain rfl:=os h
    exact retq trivial (A6 rfl B6) (A5 rfl B5) (A3 A4 A8)
def A4s (a0:ByteArray) (a1:(List ByteArray)):Option Int :=
 (A5c a0).bind fun x1 =>
 if (!x1) = true then
  some 6
 else
  (A5y a1 a0).bind fun x3 =>
  if (decide (x3 ≥ 0)) = true then
  some 5
  else
  some 0
theorem B2i {c:Sc} {H:A1} {a0:ByteArray} {a1:(List ByteArray)} {r:Int} (h:A4s a0 a1 = some r) :
  E1 tab c H (.fn (.func 47) [] []) [.s a0,(.seq 1 (List.map cS a1))] [.i r]:= by
 unfold A4s at h
 refine cE rfl rfl<|s0<|qm rfl<|es (ra2 rfl rfl)<|C2<|s0<|oB h fun x1 hx1 h=>qm rfl<|B8 (rs:=[.b x1]) rfl rfl (A2 rfl B7) ((B88 hx1).frz)<|A0 (Q8 rfl) rfl<|es (ra3 rfl rfl rfl)<|wi h rfl (fun hc2 h=>?_) fun hc2 h=>?_
 ·refine s0<|qm rfl<|es (ra1 rfl)<|C5 ?_
  obtain rfl:=os h
  exact retq trivial (A6 rfl B6) (A5 rfl B5) (A3 A4 A8)
 ·refine C3<|C2<|s0<|oB h fun x3 hx3 h=>qm rfl<|qm rfl<|B8 (rs:=[.i x3]) rfl rfl (A2 rfl (A2 rfl B7)) ((B7q hx3).frz)<|A0 (A71 rfl rfl) rfl<|es (ra1 rfl)<|wi h rfl (fun hc4 h=>?_) fun hc4 h=>?_
  ·refine s0<|qm rfl<|es (ra1 rfl)<|C5 ?_
   obtain rfl:=os h
   exact retq trivial (A6 rfl B6) (A5 rfl B5) (A3 A4 A8)
  ·refine C3<|s0<|qm rfl<|es (ra1 rfl)<|C5 ?_
   obtain rfl:=os h
   exact retq trivial (A6 rfl B6) (A5 rfl B5) (A3 A4 A8)
def M0 (a0:Int) (a1:Int) (a2:Int):Option Bool :=
 some ((decide (a0 ≥ a1)) && (decide (a0≤a2)))
theorem I8 {c:Sc} {H:A1} {a0:Int} {a1:Int} {a2:Int} {r:Bool} (h:M0 a0 a1 a2 = some r) :
  E1 tab c H (.fn (.func 50) [] []) [.i a0,.i a1,.i a2] [.b r]:= by
 unfold M0 at h
 refine cE rfl rfl<|s0<|qm rfl<|es (ra3 rfl rfl rfl)<|s0<|qm rfl<|qm rfl<|A0 (A71 rfl rfl) rfl<|qm rfl<|gp 4 14 (.b ((decide (a0 ≥ a1)) && (decide (a0≤a2)))) 10 rfl rfl (fun hg1=>?_) (fun hg1=>?_) ?_
 ·exact gT rfl hg1<|qm rfl<|gT rfl hg1<|qm rfl<|gT rfl hg1<|A0 (A4a rfl rfl) rfl<|A0 (C8 rfl hg1 rfl) rfl<|ge 4 (by rw [hg1]; rfl) rfl rfl
 ·exact nT rfl hg1 rfl<|nT rfl hg1 rfl<|nT rfl hg1 rfl<|A0 (C7 rfl hg1 rfl) rfl<|ge 4 (by rw [hg1]; rfl) rfl rfl
 refine qm rfl<|es (ra1 rfl)<|C5 ?_
 obtain rfl:=os h
 exact retq trivial (A6 rfl B6) (A5 rfl B5) (A3 A4 A8)
def A2u (a0:PaFigure):Option Int :=
 (M0 a0.Day 0 364).bind fun x1 =>
 (if (!x1) = true then
  some true
 else
  (M0 a0.Until 0 364).bind fun x3 =>
  some (!x3)).bind fun x4 =>
 (if x4 = true then
  some true
 else
  (M0 a0.Needs 0 15).bind fun x6 =>
  some (!x6)).bind fun x7 =>
 if x7 = true then
  some 7
 else
  if (decide (a0.Day > a0.Until)) = true then
  some 2
  else
  some 0
theorem B5w {c:Sc} {H:A1} {a0:PaFigure} {r:Int} (h:A2u a0 = some r) :
  E1 tab c H (.fn (.func 49) [] []) [(.agg (B3 a0))] [.i r]:= by
 unfold A2u at h
 refine cE rfl rfl<|sg 0 rfl<|A0 (E5 (cs:=B3 a0) rfl rfl rfl) rfl<|qm rfl<|es (ra1 rfl)<|C2<|s0<|oB h fun x1 hx1 h=>oB h fun x4 hx4 h=>oB h fun x7 hx7 h=>A0 (B9 rfl) rfl<|A0 (B2 rfl rfl rfl) rfl<|B8 (rs:=[.b x1]) rfl rfl (A2 rfl (A2 rfl (A2 rfl B7))) ((I8 hx1).frz)<|A0 (Q8 rfl) rfl<|qm rfl<|gp 5 12 (.b x4) 7 rfl rfl (fun hg2=>?_) (fun hg2=>?_) ?_
 ·obtain rfl:=os (bt hx4 hg2)
  exact nF rfl hg2 rfl<|nF rfl hg2 rfl<|H6 (E0 rfl (by rw [hg2]; rfl)) rfl<|nF rfl hg2 rfl<|A0 (C8 rfl hg2 rfl) rfl<|ge 5 rfl rfl rfl
 ·refine oB (bf hx4 hg2) fun x3 hx3 hx4=>?_
  obtain rfl:=os hx4
  exact gF rfl hg2<|A0 (B9 rfl) rfl<|gF rfl hg2<|A0 (B2 rfl rfl rfl) rfl<|gF rfl hg2<|B8 (rs:=[.b x3]) rfl rfl (A2 rfl (A2 rfl (A2 rfl B7))) ((I8 hx3).frz)<|gF rfl hg2<|A0 (Q8 rfl) rfl<|A0 (C7 rfl hg2 rfl) rfl<|ge 5 rfl rfl rfl
 refine qm rfl<|gp 5 18 (.b x7) 13 rfl rfl (fun hg5=>?_) (fun hg5=>?_) ?_
 ·obtain rfl:=os (bt hx7 hg5)
  exact nF rfl hg5 rfl<|nF rfl hg5 rfl<|H6 (E0 rfl (by rw [hg5]; rfl)) rfl<|nF rfl hg5 rfl<|A0 (C8 rfl hg5 rfl) rfl<|ge 5 rfl rfl rfl
 ·refine oB (bf hx7 hg5) fun x6 hx6 hx7=>?_
  obtain rfl:=os hx7
  exact gF rfl hg5<|A0 (B9 rfl) rfl<|gF rfl hg5<|A0 (B2 rfl rfl rfl) rfl<|gF rfl hg5<|B8 (rs:=[.b x6]) rfl rfl (A2 rfl (A2 rfl (A2 rfl B7))) ((I8 hx6).frz)<|gF rfl hg5<|A0 (Q8 rfl) rfl<|A0 (C7 rfl hg5 rfl) rfl<|ge 5 rfl rfl rfl
 refine es (ra2 rfl rfl)<|wi h rfl (fun hc8 h=>?_) fun hc8 h=>?_
 ·refine s0<|qm rfl<|es (ra1 rfl)<|C5 ?_
  obtain rfl:=os h
  exact retq trivial (A6 rfl B6) (A5 rfl B5) (A3 A4 A8)
 ·refine C3<|C2<|s0<|A0 (B9 rfl) rfl<|A0 (B2 rfl rfl rfl) rfl<|A0 (B9 rfl) rfl<|A0 (B2 rfl rfl rfl) rfl<|A0 (Y8 rfl rfl) rfl<|es (ra1 rfl)<|wi h rfl (fun hc9 h=>?_) fun hc9 h=>?_
  ·refine s0<|qm rfl<|es (ra1 rfl)<|C5 ?_
   obtain rfl:=os h
   exact retq trivial (A6 rfl B6) (A5 rfl B5) (A3 A4 A8)
  ·refine C3<|s0<|qm rfl<|es (ra1 rfl)<|C5 ?_
   obtain rfl:=os h
   exact retq trivial (A6 rfl B6) (A5 rfl B5) (A3 A4 A8)
def A5g (a0:PaGown):Option Bool :=
 (M0 a0.Looks 0 15).bind fun x1 =>
 if (!x1) = true then
  some false
 else
  if (!a0.Pawn) = true then
  some (((((a0.Loan == 0) && (a0.Rate == 0)) && (a0.Fee == 0)) && (a0.Ago == 0)) && (a0.Last == 0))
  else
  (M0 a0.Loan 0 5000).bind fun x8 =>
  (if x8 = true then
   (M0 a0.Rate 0 500).bind fun x10 =>
   some x10
  else
   some false).bind fun x11 =>
  (if x11 = true then
   (M0 a0.Fee 0 100).bind fun x13 =>
   some x13
  else
   some false).bind fun x14 =>
  (if x14 = true then
   (M0 a0.Ago 0 364).bind fun x16 =>
   some x16
  else
   some false).bind fun x17 =>
  (if x17 = true then
   (M0 a0.Last 0 364).bind fun x19 =>
   some x19
  else
   some false).bind fun x20 =>
  some x20
theorem B9d {c:Sc} {H:A1} {a0:PaGown} {r:Bool} (h:A5g a0 = some r) :
  E1 tab c H (.fn (.func 48) [] []) [(.agg (C1 a0))] [.b r]:= by
 unfold A5g at h
 refine cE rfl rfl<|sg 0 rfl<|A0 (E5 (cs:=C1 a0) rfl rfl rfl) rfl<|qm rfl<|es (ra1 rfl)<|C2<|s0<|oB h fun x1 hx1 h=>A0 (B9 rfl) rfl<|A0 (B2 rfl rfl rfl) rfl<|B8 (rs:=[.b x1]) rfl rfl (A2 rfl (A2 rfl (A2 rfl B7))) ((I8 hx1).frz)<|A0 (Q8 rfl) rfl<|es (ra2 rfl rfl)<|wi h rfl (fun hc2 h=>?_) fun hc2 h=>?_
 ·refine s0<|qm rfl<|es (ra1 rfl)<|C5 ?_
  obtain rfl:=os h
  exact retq trivial (A6 rfl B6) (A5 rfl B5) (A3 A4 A8)
 ·refine C3<|C2<|s0<|A0 (B9 rfl) rfl<|A0 (B2 rfl rfl rfl) rfl<|A0 (Q8 rfl) rfl<|es (ra2 rfl rfl)<|wi h rfl (fun hc3 h=>?_) fun hc3 h=>?_
  ·refine s0<|A0 (B9 rfl) rfl<|A0 (B2 rfl rfl rfl) rfl<|A0 (G0 rfl rfl) rfl<|qm rfl<|gp 4 17 (.b ((a0.Loan == 0) && (a0.Rate == 0))) 13 rfl rfl (fun hg4=>?_) (fun hg4=>?_) ?_
   ·exact gT rfl hg4<|A0 (B9 rfl) rfl<|gT rfl hg4<|A0 (B2 rfl rfl rfl) rfl<|gT rfl hg4<|A0 (G0 rfl rfl) rfl<|A0 (C8 rfl hg4 rfl) rfl<|ge 4 (by rw [hg4]; rfl) rfl rfl
   ·exact nT rfl hg4 rfl<|nT rfl hg4 rfl<|nT rfl hg4 rfl<|A0 (C7 rfl hg4 rfl) rfl<|ge 4 (by rw [hg4]; rfl) rfl rfl
   refine qm rfl<|gp 4 22 (.b (((a0.Loan == 0) && (a0.Rate == 0)) && (a0.Fee == 0))) 18 rfl rfl (fun hg5=>?_) (fun hg5=>?_) ?_
   ·exact gT rfl hg5<|A0 (B9 rfl) rfl<|gT rfl hg5<|A0 (B2 rfl rfl rfl) rfl<|gT rfl hg5<|A0 (G0 rfl rfl) rfl<|A0 (C8 rfl hg5 rfl) rfl<|ge 4 (by rw [hg5]; rfl) rfl rfl
   ·exact nT rfl hg5 rfl<|nT rfl hg5 rfl<|nT rfl hg5 rfl<|A0 (C7 rfl hg5 rfl) rfl<|ge 4 (by rw [hg5]; rfl) rfl rfl
   refine qm rfl<|gp 4 27 (.b ((((a0.Loan == 0) && (a0.Rate == 0)) && (a0.Fee == 0)) && (a0.Ago == 0))) 23 rfl rfl (fun hg6=>?_) (fun hg6=>?_) ?_
   ·exact gT rfl hg6<|A0 (B9 rfl) rfl<|gT rfl hg6<|A0 (B2 rfl rfl rfl) rfl<|gT rfl hg6<|A0 (G0 rfl rfl) rfl<|A0 (C8 rfl hg6 rfl) rfl<|ge 4 (by rw [hg6]; rfl) rfl rfl
   ·exact nT rfl hg6 rfl<|nT rfl hg6 rfl<|nT rfl hg6 rfl<|A0 (C7 rfl hg6 rfl) rfl<|ge 4 (by rw [hg6]; rfl) rfl rfl
   refine qm rfl<|gp 4 32 (.b (((((a0.Loan == 0) && (a0.Rate == 0)) && (a0.Fee == 0)) && (a0.Ago == 0)) && (a0.Last == 0))) 28 rfl rfl (fun hg7=>?_) (fun hg7=>?_) ?_
   ·exact gT rfl hg7<|A0 (B9 rfl) rfl<|gT rfl hg7<|A0 (B2 rfl rfl rfl) rfl<|gT rfl hg7<|A0 (G0 rfl rfl) rfl<|A0 (C8 rfl hg7 rfl) rfl<|ge 4 (by rw [hg7]; rfl) rfl rfl
   ·exact nT rfl hg7 rfl<|nT rfl hg7 rfl<|nT rfl hg7 rfl<|A0 (C7 rfl hg7 rfl) rfl<|ge 4 (by rw [hg7]; rfl) rfl rfl
   refine qm rfl<|es (ra1 rfl)<|C5 ?_
   obtain rfl:=os h
   exact retq trivial (A6 rfl B6) (A5 rfl B5) (A3 A4 A8)
  ·refine C3<|s0<|oB h fun x8 hx8 h=>oB h fun x11 hx11 h=>oB h fun x14 hx14 h=>oB h fun x17 hx17 h=>oB h fun x20 hx20 h=>A0 (B9 rfl) rfl<|A0 (B2 rfl rfl rfl) rfl<|B8 (rs:=[.b x8]) rfl rfl (A2 rfl (A2 rfl (A2 rfl B7))) ((I8 hx8).frz)<|qm rfl<|gp 4 40 (.b x11) 36 rfl rfl (fun hg9=>?_) (fun hg9=>?_) ?_
   ·refine oB (bt hx11 hg9) fun x10 hx10 hx11=>?_
    obtain rfl:=os hx11
    exact gT rfl hg9<|A0 (B9 rfl) rfl<|gT rfl hg9<|A0 (B2 rfl rfl rfl) rfl<|gT rfl hg9<|B8 (rs:=[.b x10]) rfl rfl (A2 rfl (A2 rfl (A2 rfl B7))) ((I8 hx10).frz)<|A0 (C8 rfl hg9 rfl) rfl<|ge 4 rfl rfl rfl
   ·obtain rfl:=os (bf hx11 hg9)
    exact nT rfl hg9 rfl<|nT rfl hg9 rfl<|H6 (E0 rfl (by rw [hg9]; rfl)) rfl<|A0 (C7 rfl hg9 rfl) rfl<|ge 4 rfl rfl rfl
   refine qm rfl<|gp 4 45 (.b x14) 41 rfl rfl (fun hg12=>?_) (fun hg12=>?_) ?_
   ·refine oB (bt hx14 hg12) fun x13 hx13 hx14=>?_
    obtain rfl:=os hx14
    exact gT rfl hg12<|A0 (B9 rfl) rfl<|gT rfl hg12<|A0 (B2 rfl rfl rfl) rfl<|gT rfl hg12<|B8 (rs:=[.b x13]) rfl rfl (A2 rfl (A2 rfl (A2 rfl B7))) ((I8 hx13).frz)<|A0 (C8 rfl hg12 rfl) rfl<|ge 4 rfl rfl rfl
   ·obtain rfl:=os (bf hx14 hg12)
    exact nT rfl hg12 rfl<|nT rfl hg12 rfl<|H6 (E0 rfl (by rw [hg12]; rfl)) rfl<|A0 (C7 rfl hg12 rfl) rfl<|ge 4 rfl rfl rfl
   refine qm rfl<|gp 4 50 (.b x17) 46 rfl rfl (fun hg15=>?_) (fun hg15=>?_) ?_
   ·refine oB (bt hx17 hg15) fun x16 hx16 hx17=>?_
    obtain rfl:=os hx17
    exact gT rfl hg15<|A0 (B9 rfl) rfl<|gT rfl hg15<|A0 (B2 rfl rfl rfl) rfl<|gT rfl hg15<|B8 (rs:=[.b x16]) rfl rfl (A2 rfl (A2 rfl (A2 rfl B7))) ((I8 hx16).frz)<|A0 (C8 rfl hg15 rfl) rfl<|ge 4 rfl rfl rfl
   ·obtain rfl:=os (bf hx17 hg15)
    exact nT rfl hg15 rfl<|nT rfl hg15 rfl<|H6 (E0 rfl (by rw [hg15]; rfl)) rfl<|A0 (C7 rfl hg15 rfl) rfl<|ge 4 rfl rfl rfl
   refine qm rfl<|gp 4 55 (.b x20) 51 rfl rfl (fun hg18=>?_) (fun hg18=>?_) ?_
   ·refine oB (bt hx20 hg18) fun x19 hx19 hx20=>?_
    obtain rfl:=os hx20
    exact gT rfl hg18<|A0 (B9 rfl) rfl<|gT rfl hg18<|A0 (B2 rfl rfl rfl) rfl<|gT rfl hg18<|B8 (rs:=[.b x19]) rfl rfl (A2 rfl (A2 rfl (A2 rfl B7))) ((I8 hx19).frz)<|A0 (C8 rfl hg18 rfl) rfl<|ge 4 rfl rfl rfl
   ·obtain rfl:=os (bf hx20 hg18)
    exact nT rfl hg18 rfl<|nT rfl hg18 rfl<|H6 (E0 rfl (by rw [hg18]; rfl)) rfl<|A0 (C7 rfl hg18 rfl) rfl<|ge 4 rfl rfl rfl
   refine qm rfl<|es (ra1 rfl)<|C5 ?_
   obtain rfl:=os h
   exact retq trivial (A6 rfl B6) (A5 rfl B5) (A3 A4 A8)
def A0i (a0:PaShow) (s2:(Int × (List ByteArray))):Option ((Int × (List ByteArray)) ⊕ ((Int × Int × Int) ⊕ (List ByteArray))) :=
 if (decide (s2.1 < (List.length a0.Gowns:Int))) = true then
  (idx a0.Gowns s2.1).bind fun x5 =>
  (A4s x5.Name s2.2).bind fun x6 =>
  (idx a0.Gowns s2.1).bind fun x7 =>
  (app 16 s2.2 [x7.Name]).bind fun x8 =>
  (if (x6 == 0) = true then
  (idx a0.Gowns s2.1).bind fun x10 =>
  (A5g x10).bind fun x11 =>
  some (!x11)
  else
  some false).bind fun x12 =>
  if x12 = true then
  some (.inr (.inl (1,s2.1,7)))
  else
  if (x6 != 0) = true then
   some (.inr (.inl (1,s2.1,x6)))
  else
   some (.inl ((w64 (s2.1 + 1)),x8))
 else
  some (.inr (.inr s2.2))
def A0j (a0:PaShow) (s18:(Int × (List ByteArray))):Option ((Int × (List ByteArray)) ⊕ ((Int × Int × Int) ⊕ (List ByteArray))) :=
 if (decide (s18.1 < (List.length a0.Figures:Int))) = true then
  (idx a0.Figures s18.1).bind fun x21 =>
  (A4s x21.Name s18.2).bind fun x22 =>
  (idx a0.Figures s18.1).bind fun x23 =>
  (app 16 s18.2 [x23.Name]).bind fun x24 =>
  if (x22 == 0) = true then
  (idx a0.Figures s18.1).bind fun x26 =>
  (A2u x26).bind fun x27 =>
  if (x27 != 0) = true then
   some (.inr (.inl (2,s18.1,x27)))
  else
   some (.inl ((w64 (s18.1 + 1)),x24))
  else
  if (x22 != 0) = true then
   some (.inr (.inl (2,s18.1,x22)))
  else
   some (.inl ((w64 (s18.1 + 1)),x24))
 else
  some (.inr (.inr s18.2))
def A0k (a0:PaShow) (s35:Int):Option (Int ⊕ ((Int × Int × Int) ⊕ Unit)) :=
 if (decide (s35 < (List.length a0.Incomes:Int))) = true then
  (idx a0.Incomes s35).bind fun x38 =>
  (M0 x38.Day 0 364).bind fun x39 =>
  (if (!x39) = true then
  some true
  else
  (idx a0.Incomes s35).bind fun x41 =>
  (M0 x41.Pence 0 10000).bind fun x42 =>
  some (!x42)).bind fun x43 =>
  if x43 = true then
  some (.inr (.inl (4,s35,7)))
  else
  some (.inl (w64 (s35 + 1)))
 else
  some (.inr (.inr ()))
def U2 (a0:PaShow):Option (Int × Int × Int) :=
 if (decide ((List.length a0.Gowns:Int) > 5)) = true then
  some (1,0,3)
 else
  (loop (A0i a0) (0,([]:List ByteArray))).bind fun (o15:((Int × Int × Int) ⊕ (List ByteArray))) =>
  match o15 with
  | (.inl vo15_0) =>
  some vo15_0
  | (.inr vo15_1) =>
  if (decide ((List.length a0.Figures:Int) > 3)) = true then
   some (2,0,3)
  else
   (loop (A0j a0) (0,([]:List ByteArray))).bind fun (o30:((Int × Int × Int) ⊕ (List ByteArray))) =>
   match o30 with
   | (.inl vo30_0) =>
   some vo30_0
   | (.inr vo30_1) =>
   (M0 a0.Purse 0 10000).bind fun x32 =>
   if (!x32) = true then
    some (3,0,7)
   else
    if (decide ((List.length a0.Incomes:Int) > 3)) = true then
    some (4,0,3)
    else
    (loop (A0k a0) 0).bind fun (o45:((Int × Int × Int) ⊕ Unit)) =>
    match o45 with
    | (.inl vo45_0) =>
     some vo45_0
    | (.inr vo45_1) =>
     some (0,0,0)
theorem A0d {c:Sc} {H:A1} {a0:PaShow} {r:(Int × Int × Int)} (h:U2 a0 = some r) :
  E1 tab c H (.fn (.func 11) [] []) [(.agg (B1 a0))] [.i r.1,.i r.2.1,.i r.2.2]:= by
 unfold U2 at h
 refine cE rfl rfl<|sg 0 rfl<|A0 (E5 (cs:=B1 a0) rfl rfl rfl) rfl<|qm rfl<|qm rfl<|qm rfl<|es (ra1 rfl)<|C2<|s0<|A0 (B9 rfl) rfl<|A0 (B2 rfl rfl rfl) rfl<|A0 (F6 (f:=C1) rfl) rfl<|A0 (Y8 rfl rfl) rfl<|es (ra2 rfl rfl)<|wi h rfl (fun hc1 h=>?_) fun hc1 h=>?_
 ·refine s0<|qm rfl<|qm rfl<|qm rfl<|es (ra3 rfl rfl rfl)<|C5 ?_
  obtain rfl:=os h
  exact retq trivial (A6 rfl (A6 rfl (A6 rfl B6))) (A5 rfl (A5 rfl (A5 rfl B5))) (A3 A4 (A3 A4 (A3 A4 A8)))
 ·refine C3<|sg 1 rfl<|A0 A5w rfl<|es (ra2 rfl rfl)<|C2<|s0<|qm rfl<|es (ra3 rfl rfl rfl)<|C6<|oB h fun o15 ho15 h=>wl (fun s2=>[(1,(.ptr (H.length + 0) 0)),(5,(.asl (H.length + 1) (List.length s2.2))),(6,.i s2.1)]) (fun (q3:Bool) s2=>[(.cells (B1 a0)),(.arr 1 q3 (List.map cS s2.2))]) 2 (fun r e s' H'=>(match r with | (.inl v)=>e = .ret∧RetQ H [.tmp 2,.tmp 3,.tmp 4] [.i v.1,.i v.2.1,.i v.2.2] e s' H' | (.inr v)=>e = (.exit 0)∧s' = [(1,(.ptr (H.length + 0) 0))]∧∃ (q0q:Bool),H' = (H++[(.cells (B1 a0)),(.arr 1 q0q (List.map cS v))]):Prop)) false ho15 rfl rfl (fun _ _=>rfl) (fun _=>rfl) rfl (fun s2=>(bdc (K8 rfl) (bdc (A05 rfl) (bdc A4 bdn)))) (fun q3 s2 ys2 hs2=>?_) ?_
  ·unfold A0i at hs2
   refine C2<|s0<|qm rfl<|A0 (B9 rfl) rfl<|A0 (B2 rfl rfl rfl) rfl<|A0 (F6 (f:=C1) rfl) rfl<|A0 (I0 rfl rfl) rfl<|es (ra4 rfl rfl rfl rfl)<|wi hs2 rfl (fun hc4 hs2=>?_) fun hc4 hs2=>?_
   ·refine C3<|C2<|C6<|s0<|oB hs2 fun x5 hx5 hs2=>oB hs2 fun x6 hx6 hs2=>A0 (B9 rfl) rfl<|A0 (B2 rfl rfl rfl) rfl<|qm rfl<|A0 (E9 (f:=C1) rfl rfl hx5) rfl<|A0 (A04 (ds:=(C1 x5)) rfl rfl) rfl<|A0 (L2 rfl rfl) rfl<|qm rfl<|B8 (rs:=[.i x6]) rfl rfl (A2 rfl (A2 (C1m rfl (List.length_map _)) B7)) ((B2i hx6).frz)<|qm rfl<|es (ra4 rfl rfl rfl rfl)<|s0<|oB hs2 fun x7 hx7 hs2=>oB hs2 fun x8 hx8 hs2=>qm rfl<|A0 (B9 rfl) rfl<|A0 (B2 rfl rfl rfl) rfl<|qm rfl<|A0 (E9 (f:=C1) rfl rfl hx7) rfl<|A0 (A04 (ds:=(C1 x7)) rfl rfl) rfl<|A0 (L2 rfl rfl) rfl<|A0 (J4 (rows:=List.map cS [x7.Name]) rfl rfl (E4 (fun _=>rfl) _)) rfl<|O4 (A44 (f:=cS) rfl rfl rfl rfl A5b (fun _=>rfl) hx8) rfl<|qm rfl<|es (ra4 rfl rfl rfl rfl)<|C2<|s0<|oB hs2 fun x12 hx12 hs2=>qm rfl<|A0 (G0 rfl rfl) rfl<|qm rfl<|gp 8 49 (.b x12) 41 rfl rfl (fun hg9=>?_) (fun hg9=>?_) ?_
    ·refine oB (bt hx12 hg9) fun x10 hx10 hx12=>oB hx12 fun x11 hx11 hx12=>?_
     obtain rfl:=os hx12
     exact gT rfl hg9<|A0 (B9 rfl) rfl<|gT rfl hg9<|A0 (B2 rfl rfl rfl) rfl<|gT rfl hg9<|qm rfl<|gT rfl hg9<|A0 (E9 (f:=C1) rfl rfl hx10) rfl<|gT rfl hg9<|A0 (F5 rfl rfl) rfl<|gT rfl hg9<|B8 (rs:=[.b x11]) rfl rfl (A2 (D0 rfl) B7) ((B9d hx11).frz)<|gT rfl hg9<|A0 (Q8 rfl) rfl<|A0 (C8 rfl hg9 rfl) rfl<|ge 8 rfl rfl rfl
    ·obtain rfl:=os (bf hx12 hg9)
     exact nT rfl hg9 rfl<|nT rfl hg9 rfl<|nT rfl hg9 rfl<|nT rfl hg9 rfl<|nT rfl hg9 rfl<|H6 (E0 rfl (by rw [hg9]; rfl)) rfl<|nT rfl hg9 rfl<|A0 (C7 rfl hg9 rfl) rfl<|ge 8 rfl rfl rfl
    refine es (ra5 rfl rfl rfl rfl rfl)<|wi hs2 rfl (fun hc13 hs2=>?_) fun hc13 hs2=>?_
    ·refine r0<|qm rfl<|en (ra4 rfl rfl rfl rfl)<|s0<|qm rfl<|A0 (O8 (v:=(.b true)) rfl rfl rfl) rfl<|es (ra5 rfl rfl rfl rfl rfl)<|N6 rfl rfl<|s0<|qm rfl<|qm rfl<|qm rfl<|qm rfl<|qm rfl<|es (ra3 rfl rfl rfl)<|C5 ?_
     obtain rfl:=os hs2
     exact lx rfl (And.intro rfl (retq trivial (A6 rfl (A6 rfl (A6 rfl B6))) (A5 rfl (A5 rfl (A5 rfl B5))) (A3 A4 (A3 A4 (A3 A4 A8))))) (Sub.refl _)
    ·refine C3<|s0<|qm rfl<|A0 (J5 rfl rfl) rfl<|es (ra5 rfl rfl rfl rfl rfl)<|wi hs2 rfl (fun hc14 hs2=>?_) fun hc14 hs2=>?_
     ·refine s0<|qm rfl<|qm rfl<|qm rfl<|qm rfl<|qm rfl<|es (ra3 rfl rfl rfl)<|C5 ?_
      obtain rfl:=os hs2
      exact lx rfl (And.intro rfl (retq trivial (A6 rfl (A6 rfl (A6 rfl B6))) (A5 rfl (A5 rfl (A5 rfl B5))) (A3 A4 (A3 A4 (A3 A4 A8))))) (Sub.refl _)
     ·refine C3<|r0<|qm rfl<|A0 (F2 rfl rfl) rfl<|qm rfl<|en (ra3 rfl rfl rfl) ?_
      cases hs2
      exact lnT true rfl (su3 rfl rfl rfl)
   ·refine G6 ?_
    obtain rfl:=os hs2
    exact lx rfl (And.intro rfl (And.intro rfl ⟨q3,rfl⟩)) (su1 rfl)
  ·rcases o15 with vo15_0 | vo15_1
   ·rintro e s' H' - ⟨rfl,hret⟩
    cases h
    exact hret
   ·rintro e s' H' - ⟨rfl,rfl,q16,rfl⟩
    refine C2<|s0<|A0 (B9 rfl) rfl<|A0 (B2 rfl rfl rfl) rfl<|A0 (F6 (f:=B3) rfl) rfl<|A0 (Y8 rfl rfl) rfl<|es (ra2 rfl rfl)<|wi h rfl (fun hc17 h=>?_) fun hc17 h=>?_
    ·refine s0<|qm rfl<|qm rfl<|qm rfl<|es (ra3 rfl rfl rfl)<|C5 ?_
     obtain rfl:=os h
     exact retq trivial (A6 rfl (A6 rfl (A6 rfl B6))) (A5 rfl (A5 rfl (A5 rfl B5))) (A3 A4 (A3 A4 (A3 A4 A8)))
    ·refine C3<|sg 2 rfl<|A0 A5w rfl<|es (ra2 rfl rfl)<|C2<|s0<|qm rfl<|es (ra3 rfl rfl rfl)<|C6<|oB h fun o30 ho30 h=>wl (fun s18=>[(1,(.ptr (H.length + 0) 0)),(5,(.asl (H.length + 2) (List.length s18.2))),(8,.i s18.1)]) (fun (q19:Bool) s18=>[(.cells (B1 a0)),(.arr 1 q16 (List.map cS vo15_1)),(.arr 1 q19 (List.map cS s18.2))]) 3 (fun r e s' H'=>(match r with | (.inl v)=>e = .ret∧RetQ H [.tmp 2,.tmp 3,.tmp 4] [.i v.1,.i v.2.1,.i v.2.2] e s' H' | (.inr v)=>e = (.exit 2)∧s' = [(1,(.ptr (H.length + 0) 0))]∧∃ (q0q:Bool),H' = (H++[(.cells (B1 a0)),(.arr 1 q16 (List.map cS vo15_1)),(.arr 1 q0q (List.map cS v))]):Prop)) false ho30 rfl rfl (fun _ _=>rfl) (fun _=>rfl) rfl (fun s18=>(bdc (K8 rfl) (bdc (A05 rfl) (bdc A4 bdn)))) (fun q19 s18 ys18 hs18=>?_) ?_
     ·unfold A0j at hs18
      refine C2<|s0<|qm rfl<|A0 (B9 rfl) rfl<|A0 (B2 rfl rfl rfl) rfl<|A0 (F6 (f:=B3) rfl) rfl<|A0 (I0 rfl rfl) rfl<|es (ra4 rfl rfl rfl rfl)<|wi hs18 rfl (fun hc20 hs18=>?_) fun hc20 hs18=>?_
      ·refine C3<|C2<|C6<|s0<|oB hs18 fun x21 hx21 hs18=>oB hs18 fun x22 hx22 hs18=>A0 (B9 rfl) rfl<|A0 (B2 rfl rfl rfl) rfl<|qm rfl<|A0 (E9 (f:=B3) rfl rfl hx21) rfl<|A0 (A04 (ds:=(B3 x21)) rfl rfl) rfl<|A0 (L2 rfl rfl) rfl<|qm rfl<|B8 (rs:=[.i x22]) rfl rfl (A2 rfl (A2 (C1m rfl (List.length_map _)) B7)) ((B2i hx22).frz)<|qm rfl<|es (ra4 rfl rfl rfl rfl)<|s0<|oB hs18 fun x23 hx23 hs18=>oB hs18 fun x24 hx24 hs18=>qm rfl<|A0 (B9 rfl) rfl<|A0 (B2 rfl rfl rfl) rfl<|qm rfl<|A0 (E9 (f:=B3) rfl rfl hx23) rfl<|A0 (A04 (ds:=(B3 x23)) rfl rfl) rfl<|A0 (L2 rfl rfl) rfl<|A0 (J4 (rows:=List.map cS [x23.Name]) rfl rfl (E4 (fun _=>rfl) _)) rfl<|O4 (A44 (f:=cS) rfl rfl rfl rfl A5b (fun _=>rfl) hx24) rfl<|qm rfl<|es (ra4 rfl rfl rfl rfl)<|C2<|s0<|qm rfl<|A0 (G0 rfl rfl) rfl<|es (ra5 rfl rfl rfl rfl rfl)<|wi hs18 rfl (fun hc25 hs18=>?_) fun hc25 hs18=>?_
       ·refine r0<|oB hs18 fun x26 hx26 hs18=>oB hs18 fun x27 hx27 hs18=>A0 (B9 rfl) rfl<|A0 (B2 rfl rfl rfl) rfl<|qm rfl<|A0 (E9 (f:=B3) rfl rfl hx26) rfl<|A0 (F5 rfl rfl) rfl<|B8 (rs:=[.i x27]) rfl rfl (A2 (D0 rfl) B7) ((B5w hx27).frz)<|qm rfl<|en (ra4 rfl rfl rfl rfl)<|s0<|qm rfl<|A0 (J5 rfl rfl) rfl<|es (ra5 rfl rfl rfl rfl rfl)<|wi hs18 rfl (fun hc28 hs18=>?_) fun hc28 hs18=>?_
        ·refine s0<|qm rfl<|qm rfl<|qm rfl<|qm rfl<|qm rfl<|es (ra3 rfl rfl rfl)<|C5 ?_
         obtain rfl:=os hs18
         exact lx rfl (And.intro rfl (retq trivial (A6 rfl (A6 rfl (A6 rfl B6))) (A5 rfl (A5 rfl (A5 rfl B5))) (A3 A4 (A3 A4 (A3 A4 A8))))) (Sub.refl _)
        ·refine C3<|r0<|qm rfl<|A0 (F2 rfl rfl) rfl<|qm rfl<|en (ra3 rfl rfl rfl) ?_
         cases hs18
         exact lnT true rfl (su3 rfl rfl rfl)
       ·refine C3<|s0<|qm rfl<|A0 (J5 rfl rfl) rfl<|es (ra5 rfl rfl rfl rfl rfl)<|wi hs18 rfl (fun hc29 hs18=>?_) fun hc29 hs18=>?_
        ·refine s0<|qm rfl<|qm rfl<|qm rfl<|qm rfl<|qm rfl<|es (ra3 rfl rfl rfl)<|C5 ?_
         obtain rfl:=os hs18
         exact lx rfl (And.intro rfl (retq trivial (A6 rfl (A6 rfl (A6 rfl B6))) (A5 rfl (A5 rfl (A5 rfl B5))) (A3 A4 (A3 A4 (A3 A4 A8))))) (Sub.refl _)
        ·refine C3<|r0<|qm rfl<|A0 (F2 rfl rfl) rfl<|qm rfl<|en (ra3 rfl rfl rfl) ?_
         cases hs18
         exact lnT true rfl (su3 rfl rfl rfl)
      ·refine G6 ?_
       obtain rfl:=os hs18
       exact lx rfl (And.intro rfl (And.intro rfl ⟨q19,rfl⟩)) (su1 rfl)
     ·rcases o30 with vo30_0 | vo30_1
      ·rintro e s' H' - ⟨rfl,hret⟩
       cases h
       exact hret
      ·rintro e s' H' - ⟨rfl,rfl,q31,rfl⟩
       refine C2<|s0<|oB h fun x32 hx32 h=>A0 (B9 rfl) rfl<|A0 (B2 rfl rfl rfl) rfl<|B8 (rs:=[.b x32]) rfl rfl (A2 rfl (A2 rfl (A2 rfl B7))) ((I8 hx32).frz)<|A0 (Q8 rfl) rfl<|es (ra2 rfl rfl)<|wi h rfl (fun hc33 h=>?_) fun hc33 h=>?_
       ·refine s0<|qm rfl<|qm rfl<|qm rfl<|es (ra3 rfl rfl rfl)<|C5 ?_
        obtain rfl:=os h
        exact retq trivial (A6 rfl (A6 rfl (A6 rfl B6))) (A5 rfl (A5 rfl (A5 rfl B5))) (A3 A4 (A3 A4 (A3 A4 A8)))
       ·refine C3<|C2<|s0<|A0 (B9 rfl) rfl<|A0 (B2 rfl rfl rfl) rfl<|A0 (F6 (f:=D1) rfl) rfl<|A0 (Y8 rfl rfl) rfl<|es (ra2 rfl rfl)<|wi h rfl (fun hc34 h=>?_) fun hc34 h=>?_
        ·refine s0<|qm rfl<|qm rfl<|qm rfl<|es (ra3 rfl rfl rfl)<|C5 ?_
         obtain rfl:=os h
         exact retq trivial (A6 rfl (A6 rfl (A6 rfl B6))) (A5 rfl (A5 rfl (A5 rfl B5))) (A3 A4 (A3 A4 (A3 A4 A8)))
        ·refine C3<|C2<|s0<|qm rfl<|es (ra2 rfl rfl)<|C6<|oB h fun o45 ho45 h=>wl (fun s35=>[(1,(.ptr (H.length + 0) 0)),(10,.i s35)]) (fun (q36:Unit) s35=>[(.cells (B1 a0)),(.arr 1 q16 (List.map cS vo15_1)),(.arr 1 q31 (List.map cS vo30_1))]) 3 (fun r e s' H'=>(match r with | (.inl v)=>e = .ret∧RetQ H [.tmp 2,.tmp 3,.tmp 4] [.i v.1,.i v.2.1,.i v.2.2] e s' H' | (.inr v)=>PX 4 [] (H++[(.cells (B1 a0)),(.arr 1 q16 (List.map cS vo15_1)),(.arr 1 q31 (List.map cS vo30_1))]) e s' H':Prop)) () ho45 rfl rfl (fun _ _=>rfl) (fun _=>rfl) rfl (fun s35=>(bdc (K8 rfl) (bdc A4 bdn))) (fun q36 s35 ys35 hs35=>?_) ?_
         ·unfold A0k at hs35
          refine C2<|s0<|qm rfl<|A0 (B9 rfl) rfl<|A0 (B2 rfl rfl rfl) rfl<|A0 (F6 (f:=D1) rfl) rfl<|A0 (I0 rfl rfl) rfl<|es (ra3 rfl rfl rfl)<|wi hs35 rfl (fun hc37 hs35=>?_) fun hc37 hs35=>?_
          ·refine C3<|C2<|C6<|s0<|oB hs35 fun x38 hx38 hs35=>oB hs35 fun x39 hx39 hs35=>oB hs35 fun x43 hx43 hs35=>A0 (B9 rfl) rfl<|A0 (B2 rfl rfl rfl) rfl<|qm rfl<|A0 (E9 (f:=D1) rfl rfl hx38) rfl<|A0 (A04 (ds:=(D1 x38)) rfl rfl) rfl<|A0 (L2 rfl rfl) rfl<|B8 (rs:=[.b x39]) rfl rfl (A2 rfl (A2 rfl (A2 rfl B7))) ((I8 hx39).frz)<|A0 (Q8 rfl) rfl<|qm rfl<|gp 9 126 (.b x43) 117 rfl rfl (fun hg40=>?_) (fun hg40=>?_) ?_
           ·obtain rfl:=os (bt hx43 hg40)
            exact nF rfl hg40 rfl<|nF rfl hg40 rfl<|nF rfl hg40 rfl<|nF rfl hg40 rfl<|nF rfl hg40 rfl<|nF rfl hg40 rfl<|H6 (E0 rfl (by rw [hg40]; rfl)) rfl<|nF rfl hg40 rfl<|A0 (C8 rfl hg40 rfl) rfl<|ge 9 rfl rfl rfl
           ·refine oB (bf hx43 hg40) fun x41 hx41 hx43=>oB hx43 fun x42 hx42 hx43=>?_
            obtain rfl:=os hx43
            exact gF rfl hg40<|A0 (B9 rfl) rfl<|gF rfl hg40<|A0 (B2 rfl rfl rfl) rfl<|gF rfl hg40<|qm rfl<|gF rfl hg40<|A0 (E9 (f:=D1) rfl rfl hx41) rfl<|gF rfl hg40<|A0 (A04 (ds:=(List.drop 1 (D1 x41))) rfl rfl) rfl<|gF rfl hg40<|A0 (L2 rfl rfl) rfl<|gF rfl hg40<|B8 (rs:=[.b x42]) rfl rfl (A2 rfl (A2 rfl (A2 rfl B7))) ((I8 hx42).frz)<|gF rfl hg40<|A0 (Q8 rfl) rfl<|A0 (C7 rfl hg40 rfl) rfl<|ge 9 rfl rfl rfl
           refine es (ra3 rfl rfl rfl)<|wi hs35 rfl (fun hc44 hs35=>?_) fun hc44 hs35=>?_
           ·refine s0<|qm rfl<|qm rfl<|qm rfl<|qm rfl<|es (ra3 rfl rfl rfl)<|C5 ?_
            obtain rfl:=os hs35
            exact lx rfl (And.intro rfl (retq trivial (A6 rfl (A6 rfl (A6 rfl B6))) (A5 rfl (A5 rfl (A5 rfl B5))) (A3 A4 (A3 A4 (A3 A4 A8))))) (Sub.refl _)
           ·refine C3<|r0<|qm rfl<|A0 (F2 rfl rfl) rfl<|qm rfl<|en (ra2 rfl rfl) ?_
            cases hs35
            exact lnT () rfl (su2 rfl rfl)
          ·refine G6 ?_
           obtain rfl:=os hs35
           exact lx rfl px (.nil _)
         ·rcases o45 with vo45_0 | vo45_1
          ·rintro e s' H' - ⟨rfl,hret⟩
           cases h
           exact hret
          ·rintro e s' H' - ⟨rfl,rfl,rfl⟩
           refine s0<|qm rfl<|qm rfl<|qm rfl<|es (ra3 rfl rfl rfl)<|C5 ?_
           obtain rfl:=os h
           exact retq trivial (A6 rfl (A6 rfl (A6 rfl B6))) (A5 rfl (A5 rfl (A5 rfl B5))) (A3 A4 (A3 A4 (A3 A4 A8)))
def A0v (a0:PaGown):Option ByteArray :=
 some a0.Name
theorem B5n {c:Sc} {H:A1} {a0:PaGown} {r:ByteArray} (h:A0v a0 = some r) :
  E1 tab c H (.fn (.func 42) [] []) [(.agg (C1 a0))] [.s r]:= by
 unfold A0v at h
 refine cE rfl rfl<|sg 0 rfl<|A0 (E5 (cs:=C1 a0) rfl rfl rfl) rfl<|qm rfl<|es (ra1 rfl)<|s0<|A0 (B9 rfl) rfl<|A0 (B2 rfl rfl rfl) rfl<|qm rfl<|es (ra1 rfl)<|C5 ?_
 obtain rfl:=os h
 exact retq trivial (A6 rfl B6) (A5 rfl B5) (A3 A4 A8)
def A0w (a0:PaFigure):Option ByteArray :=
 some a0.Name
theorem B5o {c:Sc} {H:A1} {a0:PaFigure} {r:ByteArray} (h:A0w a0 = some r) :
  E1 tab c H (.fn (.func 45) [] []) [(.agg (B3 a0))] [.s r]:= by
 unfold A0w at h
 refine cE rfl rfl<|sg 0 rfl<|A0 (E5 (cs:=B3 a0) rfl rfl rfl) rfl<|qm rfl<|es (ra1 rfl)<|s0<|A0 (B9 rfl) rfl<|A0 (B2 rfl rfl rfl) rfl<|qm rfl<|es (ra1 rfl)<|C5 ?_
 obtain rfl:=os h
 exact retq trivial (A6 rfl B6) (A5 rfl B5) (A3 A4 A8)
def A1a (a0:ByteArray) (s1:Nat):Option (Nat ⊕ (Bool ⊕ Nat)) :=
 if (decide (s1 < ByteArray.size a0)) = true then
  if ((!((decide (97≤((Utf8.decode a0 s1).1:Int))) && (decide (((Utf8.decode a0 s1).1:Int)≤122)))) && (((s1:Int) == 0) || ((((Utf8.decode a0 s1).1:Int) != 46) && ((decide (((Utf8.decode a0 s1).1:Int) < 48)) || (decide (((Utf8.decode a0 s1).1:Int) > 57)))))) = true then
  some (.inr (.inl false))
  else
  some (.inl (s1 + (Utf8.decode a0 s1).2))
 else
  some (.inr (.inr s1))
def A26 (a0:ByteArray):Option Bool :=
 (loop (A1a a0) (0:Nat)).bind fun (o10:(Bool ⊕ Nat)) =>
 match o10 with
 | (.inl vo10_0) =>
  some vo10_0
 | (.inr vo10_1) =>
  some ((!eqS a0 (ByteArray.mk #[])) && (decide ((ByteArray.size a0:Int)≤16)))
theorem B0j {c:Sc} {H:A1} {a0:ByteArray} {r:Bool} (h:A26 a0 = some r) :
  E1 tab c H (.fn (.func 81) [] []) [.s a0] [.b r]:= by
 unfold A26 at h
 refine cE rfl rfl<|s0<|qm rfl<|es (ra1 rfl)<|C2<|sg 0 rfl<|qm rfl<|A0 (D4i rfl) rfl<|es (ra2 rfl rfl)<|C6<|oB h fun o10 ho10 h=>wl (fun s1=>[(0,.s a0),(7,(.itr (H.length + 0)))]) (fun (q2:Unit) s1=>[.iter a0 s1]) 1 (fun r e s' H'=>(match r with | (.inl v)=>e = .ret∧RetQ H [.tmp 2] [.b v] e s' H' | (.inr v)=>PX 0 [(0,.s a0)] (H++[.iter a0 v]) e s' H':Prop)) () ho10 rfl rfl (fun _ _=>rfl) (fun _=>rfl) rfl (fun s1=>(bdc A4 (bdc (D5q rfl) bdn))) (fun q2 s1 ys1 hs1=>?_) ?_
 ·unfold A1a at hs1
  by_cases hc3:(decide (s1 < ByteArray.size a0)) = true
  ·rw [if_pos hc3] at hs1
   refine s0<|O4 (D4h rfl rfl (of_decide_eq_true hc3)) rfl<|A0 (A9 rfl rfl) rfl<|es (ra4 rfl rfl rfl rfl)<|C2<|N6 rfl rfl<|C3<|C6<|s0<|A0 (A9 rfl rfl) rfl<|A0 (A9 rfl rfl) rfl<|qm rfl<|qm rfl<|es (ra4 rfl rfl rfl rfl)<|s0<|qm rfl<|A0 (A4a rfl rfl) rfl<|qm rfl<|gp 3 17 (.b ((decide (97≤((Utf8.decode a0 s1).1:Int))) && (decide (((Utf8.decode a0 s1).1:Int)≤122)))) 14 rfl rfl (fun hg4=>?_) (fun hg4=>?_) ?_
   ·exact gT rfl hg4<|qm rfl<|gT rfl hg4<|A0 (A4a rfl rfl) rfl<|A0 (C8 rfl hg4 rfl) rfl<|ge 3 (by rw [hg4]; rfl) rfl rfl
   ·exact nT rfl hg4 rfl<|nT rfl hg4 rfl<|A0 (C7 rfl hg4 rfl) rfl<|ge 3 (by rw [hg4]; rfl) rfl rfl
   refine qm rfl<|es (ra5 rfl rfl rfl rfl rfl)<|s0<|qm rfl<|A0 (Q8 rfl) rfl<|qm rfl<|gp 15 35 (.b ((!((decide (97≤((Utf8.decode a0 s1).1:Int))) && (decide (((Utf8.decode a0 s1).1:Int)≤122)))) && (((s1:Int) == 0) || ((((Utf8.decode a0 s1).1:Int) != 46) && ((decide (((Utf8.decode a0 s1).1:Int) < 48)) || (decide (((Utf8.decode a0 s1).1:Int) > 57))))))) 20 rfl rfl (fun hg5=>?_) (fun hg5=>?_) ?_
   ·refine gT rfl hg5<|qm rfl<|gT rfl hg5<|A0 (G0 rfl rfl) rfl<|gT rfl hg5<|qm rfl<|gq 11 34 (.b (((s1:Int) == 0) || ((((Utf8.decode a0 s1).1:Int) != 46) && ((decide (((Utf8.decode a0 s1).1:Int) < 48)) || (decide (((Utf8.decode a0 s1).1:Int) > 57)))))) 23 rfl rfl (fun hg6=>?_) (fun hg6=>?_) ?_
    ·exact nF rfl hg6 rfl<|nF rfl hg6 rfl<|nF rfl hg6 rfl<|nX rfl rfl<|nX rfl rfl<|nX rfl rfl<|nX rfl rfl<|nX rfl rfl<|nX rfl rfl<|nF rfl hg6 rfl<|gT rfl hg5<|A0 (C8 rfl hg6 rfl) rfl<|ge 11 (by rw [hg6]; rfl) rfl rfl
    ·refine gF rfl hg6<|qm rfl<|gF rfl hg6<|A0 (J5 rfl rfl) rfl<|gF rfl hg6<|qm rfl<|gq 7 33 (.b ((((Utf8.decode a0 s1).1:Int) != 46) && ((decide (((Utf8.decode a0 s1).1:Int) < 48)) || (decide (((Utf8.decode a0 s1).1:Int) > 57))))) 26 rfl rfl (fun hg7=>?_) (fun hg7=>?_) ?_
     ·refine gT rfl hg7<|qm rfl<|gT rfl hg7<|A0 (I0 rfl rfl) rfl<|gT rfl hg7<|qm rfl<|gq 3 32 (.b ((decide (((Utf8.decode a0 s1).1:Int) < 48)) || (decide (((Utf8.decode a0 s1).1:Int) > 57)))) 29 rfl rfl (fun hg8=>?_) (fun hg8=>?_) ?_
      ·exact nF rfl hg8 rfl<|nF rfl hg8 rfl<|gT rfl hg7<|A0 (C8 rfl hg8 rfl) rfl<|ge 3 (by rw [hg8]; rfl) rfl rfl
      ·exact gF rfl hg8<|qm rfl<|gF rfl hg8<|A0 (Y8 rfl rfl) rfl<|gT rfl hg7<|A0 (C7 rfl hg8 rfl) rfl<|ge 3 (by rw [hg8]; rfl) rfl rfl
      exact gF rfl hg6<|A0 (C8 rfl hg7 rfl) rfl<|ge 5 (by rw [hg7]; rfl) rfl rfl
     ·exact nT rfl hg7 rfl<|nT rfl hg7 rfl<|nT rfl hg7 rfl<|nX rfl rfl<|nX rfl rfl<|nT rfl hg7 rfl<|gF rfl hg6<|A0 (C7 rfl hg7 rfl) rfl<|ge 7 (by rw [hg7]; rfl) rfl rfl
     exact gT rfl hg5<|A0 (C7 rfl hg6 rfl) rfl<|ge 5 (by rw [hg6]; rfl) rfl rfl
    exact A0 (C8 rfl hg5 rfl) rfl<|ge 5 (by rw [hg5]; rfl) rfl rfl
   ·exact nT rfl hg5 rfl<|nT rfl hg5 rfl<|nT rfl hg5 rfl<|nX rfl rfl<|nX rfl rfl<|nX rfl rfl<|nX rfl rfl<|nX rfl rfl<|nX rfl rfl<|nX rfl rfl<|nX rfl rfl<|nX rfl rfl<|nX rfl rfl<|nT rfl hg5 rfl<|A0 (C7 rfl hg5 rfl) rfl<|ge 15 (by rw [hg5]; rfl) rfl rfl
   refine es (ra3 rfl rfl rfl)<|wi hs1 rfl (fun hc9 hs1=>?_) fun hc9 hs1=>?_
   ·refine s0<|qm rfl<|es (ra1 rfl)<|C5 ?_
    obtain rfl:=os hs1
    exact lx rfl (And.intro rfl (retq trivial (A6 rfl B6) (A5 rfl B5) (A3 A4 A8))) (Sub.refl _)
   ·refine C3 ?_
    cases hs1
    exact lnT () rfl (su2 rfl rfl)
  ·rw [if_neg hc3] at hs1
   refine s0<|O4 (D4g rfl rfl (fun hn=>hc3 (decide_eq_true hn))) rfl<|A0 (A9 rfl rfl) rfl<|es (ra4 rfl rfl rfl rfl)<|C2<|P7 rfl rfl<|G6 ?_
   obtain rfl:=os hs1
   exact lx rfl px (su1 rfl)
 ·rcases o10 with vo10_0 | vo10_1
  ·rintro e s' H' - ⟨rfl,hret⟩
   cases h
   exact hret
  ·rintro e s' H' - ⟨rfl,rfl,rfl⟩
   refine s0<|qm rfl<|A0 (D7t rfl rfl) rfl<|qm rfl<|gp 4 42 (.b ((!eqS a0 (ByteArray.mk #[])) && (decide ((ByteArray.size a0:Int)≤16)))) 38 rfl rfl (fun hg11=>?_) (fun hg11=>?_) ?_
   ·exact gT rfl hg11<|qm rfl<|gT rfl hg11<|A0 (C12 rfl) rfl<|gT rfl hg11<|A0 (A4a rfl rfl) rfl<|A0 (C8 rfl hg11 rfl) rfl<|ge 4 (by rw [hg11]; rfl) rfl rfl
   ·exact nT rfl hg11 rfl<|nT rfl hg11 rfl<|nT rfl hg11 rfl<|A0 (C7 rfl hg11 rfl) rfl<|ge 4 (by rw [hg11]; rfl) rfl rfl
   refine qm rfl<|es (ra1 rfl)<|C5 ?_
   obtain rfl:=os h
   exact retq trivial (A6 rfl B6) (A5 rfl B5) (A3 A4 A8)
def M6 (a0:PaFigure) (g1:(PaFigure→Option ByteArray)) (a2:(List PaFigure)) (a3:Int):Option Bool :=
 (g1 a0).bind fun x1 =>
 (idx a2 a3).bind fun x2 =>
 (g1 x2).bind fun x3 =>
 some (eqS x1 x3)
theorem A37 {c:Sc} {H:A1} {a0:PaFigure} {g1:PaFigure→Option ByteArray} {g1_i:Nat} {g1_f g1_c:List AV} (g1_h:Impl tab H g1_i g1_f g1_c g1 (fun y=>[(.agg (B3 y))]) (fun y=>[.s y])) {b1:Nat} (hb1:hcells H b1 = some [.fn (.func g1_i) g1_f g1_c]) {a2:(List PaFigure)} {b2:Nat} (hb2:hcells H b2 = some ((cL 4 B3) a2)) {a3:Int} {b3:Nat} (hb3:hcells H b3 = some (cI a3)) {r:Bool} (h:M6 a0 g1 a2 a3 = some r) :
  E1 tab c H (.fn (.func 85) [] []) [(.agg (B3 a0)),.ptr b1 0,.ptr b2 0,.ptr b3 0] [.b r]:= by
 unfold M6 at h
 refine cE rfl rfl<|sg 0 rfl<|A0 (E5 (cs:=B3 a0) rfl rfl rfl) rfl<|qm rfl<|es (ra4 rfl rfl rfl rfl)<|s0<|oB h fun x1 hx1 h=>oB h fun x2 hx2 h=>oB h fun x3 hx3 h=>A0 (F7 (x:=(.fn (.func g1_i) g1_f g1_c)) rfl hb1 rfl) rfl<|A0 (D2 rfl rfl rfl) rfl<|U1 (rs:=[.s x1]) rfl rfl (T0 rfl A0e) (A2 (D0 rfl) B7) (Impl.callP g1_h hx1 _)<|A0 (F7 (x:=(.fn (.func g1_i) g1_f g1_c)) rfl hb1 rfl) rfl<|A0 (F7 rfl hb2 rfl) rfl<|A0 (F7 rfl hb3 rfl) rfl<|A0 (E9 (f:=B3) rfl rfl hx2) rfl<|A0 (F5 rfl rfl) rfl<|B8 (rs:=[.s x3]) rfl rfl (A2 (D0 rfl) B7) (Impl.call g1_h hx3 _)<|A0 (D0i rfl rfl) rfl<|qm rfl<|es (ra1 rfl)<|C5 ?_
 obtain rfl:=os h
 exact retq trivial (A6 rfl B6) (A5 rfl B5) (A3 A4 A8)
def J6 (a0:(List PaFigure)) (g1:(PaFigure→Option Bool)) (s1:Int):Option (Int ⊕ (Int ⊕ Unit)) :=
 if (decide (s1 < (List.length a0:Int))) = true then
  (idx a0 s1).bind fun x4 =>
  (g1 x4).bind fun x5 =>
  if x5 = true then
  some (.inr (.inl s1))
  else
  some (.inl (w64 (s1 + 1)))
 else
  some (.inr (.inr ()))
def K4 (a0:(List PaFigure)) (g1:(PaFigure→Option Bool)):Option Int :=
 (loop (J6 a0 g1) 0).bind fun (o7:(Int ⊕ Unit)) =>
 match o7 with
 | (.inl vo7_0) =>
  some vo7_0
 | (.inr vo7_1) =>
  some (-1)
theorem V4 {c:Sc} {H:A1} {a0:(List PaFigure)} {g1:PaFigure→Option Bool} {g1_i:Nat} {g1_f g1_c:List AV} (g1_h:Impl tab H g1_i g1_f g1_c g1 (fun y=>[(.agg (B3 y))]) (fun y=>[.b y])) {r:Int} (h:K4 a0 g1 = some r) :
  E1 tab c H (.fn (.func 111) [] []) [(.seq 4 (List.map B3 a0)),.fn (.func g1_i) g1_f g1_c] [.i r]:= by
 unfold K4 at h
 refine cE rfl rfl<|s0<|qm rfl<|es (ra2 rfl rfl)<|C2<|s0<|qm rfl<|A0 (F6 (f:=B3) rfl) rfl<|qm rfl<|es (ra4 rfl rfl rfl rfl)<|C6<|oB h fun o7 ho7 h=>wl (fun s1=>[(0,(.seq 4 (List.map B3 a0))),(1,(.fn (.func g1_i) g1_f g1_c)),(7,(.i (List.length a0:Int))),(8,.i s1)]) (fun (q2:Unit) s1=>[]) 0 (fun r e s' H'=>(match r with | (.inl v)=>e = .ret∧RetQ H [.tmp 4] [.i v] e s' H' | (.inr v)=>PX 0 [] (H++[]) e s' H':Prop)) () ho7 rfl rfl (fun _ _=>rfl) (fun _=>rfl) rfl (fun s1=>(bdc K0 (bdc (C21 g1_h.1) (bdc A4 (bdc A4 bdn))))) (fun q2 s1 ys1 hs1=>?_) ?_
 ·unfold J6 at hs1
  refine s0<|A0 (I0 rfl rfl) rfl<|es (ra5 rfl rfl rfl rfl rfl)<|C2<|wi hs1 rfl (fun hc3 hs1=>?_) fun hc3 hs1=>?_
  ·refine C3<|C2<|C6<|s0<|qm rfl<|qm rfl<|es (ra5 rfl rfl rfl rfl rfl)<|s0<|oB hs1 fun x4 hx4 hs1=>oB hs1 fun x5 hx5 hs1=>qm rfl<|qm rfl<|qm rfl<|A0 (E9 (f:=B3) rfl rfl hx4) rfl<|A0 (F5 rfl rfl) rfl<|B8 (rs:=[.b x5]) rfl rfl (A2 (D0 rfl) B7) (Impl.call g1_h hx5 _)<|es (ra6 rfl rfl rfl rfl rfl rfl)<|wi hs1 rfl (fun hc6 hs1=>?_) fun hc6 hs1=>?_
   ·refine s0<|qm rfl<|qm rfl<|es (ra1 rfl)<|C5 ?_
    obtain rfl:=os hs1
    exact lx rfl (And.intro rfl (retq trivial (A6 rfl B6) (A5 rfl B5) (A3 A4 A8))) (Sub.refl _)
   ·refine C3<|r0<|A0 (F2 rfl rfl) rfl<|qm rfl<|en (ra4 rfl rfl rfl rfl) ?_
    cases hs1
    exact lnT () rfl (su4 rfl rfl rfl rfl)
  ·refine G6 ?_
   obtain rfl:=os hs1
   exact lx rfl px (.nil _)
 ·rcases o7 with vo7_0 | vo7_1
  ·rintro e s' H' - ⟨rfl,hret⟩
   cases h
   exact hret
  ·rintro e s' H' - ⟨rfl,rfl,rfl⟩
   refine s0<|qm rfl<|es (ra1 rfl)<|C5 ?_
   obtain rfl:=os h
   exact retq trivial (A6 rfl B6) (A5 rfl B5) (A3 A4 A8)
def G5 (a0:(List PaFigure)) (g1:(PaFigure→Option Bool)):Option Bool :=
 (K4 a0 g1).bind fun x1 =>
 some (decide (x1 ≥ 0))
theorem T2 {c:Sc} {H:A1} {a0:(List PaFigure)} {g1:PaFigure→Option Bool} {g1_i:Nat} {g1_f g1_c:List AV} (g1_h:Impl tab H g1_i g1_f g1_c g1 (fun y=>[(.agg (B3 y))]) (fun y=>[.b y])) {r:Bool} (h:G5 a0 g1 = some r) :
  E1 tab c H (.fn (.func 84) [] []) [(.seq 4 (List.map B3 a0)),.fn (.func g1_i) g1_f g1_c] [.b r]:= by
 unfold G5 at h
 refine cE rfl rfl<|s0<|qm rfl<|es (ra2 rfl rfl)<|s0<|oB h fun x1 hx1 h=>qm rfl<|qm rfl<|B8 (rs:=[.i x1]) rfl rfl (A2 rfl (A2 rfl B7)) ((V4 (Impl.app g1_h _) hx1).frz)<|A0 (A71 rfl rfl) rfl<|qm rfl<|es (ra1 rfl)<|C5 ?_
 obtain rfl:=os h
 exact retq trivial (A6 rfl B6) (A5 rfl B5) (A3 A4 A8)
def N3 (a0:(List PaFigure)) (a1:Int) (g2:(PaFigure→Option ByteArray)):Option Int :=
 (idx a0 a1).bind fun x1 =>
 (g2 x1).bind fun x2 =>
 (A26 x2).bind fun x3 =>
 if (!x3) = true then
  some 6
 else
  (slc a0 0 a1).bind fun x5 =>
  (G5 x5 (fun (y:PaFigure)=>M6 y g2 a0 a1)).bind fun x6 =>
  if x6 = true then
  some 5
  else
  some 0
theorem A47 {c:Sc} {H:A1} {a0:(List PaFigure)} {a1:Int} {g2:PaFigure→Option ByteArray} {g2_i:Nat} {g2_f g2_c:List AV} (g2_h:Impl tab H g2_i g2_f g2_c g2 (fun y=>[(.agg (B3 y))]) (fun y=>[.s y])) {r:Int} (h:N3 a0 a1 g2 = some r) :
  E1 tab c H (.fn (.func 44) [] []) [(.seq 4 (List.map B3 a0)),.i a1,.fn (.func g2_i) g2_f g2_c] [.i r]:= by
 unfold N3 at h
 refine cE rfl rfl<|sg 0 rfl<|A0 (E5 (cs:=(cL 4 B3) a0) rfl rfl rfl) rfl<|A0 (E5 (cs:=cI a1) rfl rfl rfl) rfl<|A0 (E5 (cs:=[(.fn (.func g2_i) g2_f g2_c)]) rfl rfl rfl) rfl<|qm rfl<|es (ra3 rfl rfl rfl)<|C2<|C6<|s0<|oB h fun x1 hx1 h=>oB h fun x2 hx2 h=>oB h fun x3 hx3 h=>A0 (B2 (x:=(.fn (.func g2_i) g2_f g2_c)) rfl rfl rfl) rfl<|A0 (B2 rfl rfl rfl) rfl<|A0 (B2 rfl rfl rfl) rfl<|A0 (E9 (f:=B3) rfl rfl hx1) rfl<|A0 (F5 rfl rfl) rfl<|B8 (rs:=[.s x2]) rfl rfl (A2 (D0 rfl) B7) (Impl.call g2_h hx2 _)<|B8 (rs:=[.b x3]) rfl rfl (A2 rfl B7) ((B0j hx3).frz)<|A0 (Q8 rfl) rfl<|qm rfl<|es (ra4 rfl rfl rfl rfl)<|wi h rfl (fun hc4 h=>?_) fun hc4 h=>?_
 ·refine s0<|qm rfl<|es (ra1 rfl)<|C5 ?_
  obtain rfl:=os h
  exact retq trivial (A6 rfl B6) (A5 rfl B5) (A3 A4 A8)
 ·refine s0<|oB h fun x5 hx5 h=>oB h fun x6 hx6 h=>A0 (B2 rfl rfl rfl) rfl<|A0 (B2 rfl rfl rfl) rfl<|A0 (C36 (f:=B3) rfl rfl rfl hx5) rfl<|A0 (A28 rfl rfl) rfl<|B8 (rs:=[.b x6]) rfl rfl (A2 rfl (A2 rfl B7)) ((T2 (show Impl _ _ 85 [] [(.ptr (H.length + 2) 0),(.ptr (H.length + 0) 0),(.ptr (H.length + 1) 0)] (fun (y:PaFigure)=>M6 y g2 a0 a1) (fun (y:PaFigure)=>[(.agg (B3 y))]) (fun (y:Bool)=>[.b y]) from ⟨⟨A8,(by rw [List.length_append]; exact (A3 (K8 rfl) (A3 (K8 rfl) (A3 (K8 rfl) A8))))⟩,fun H' hle hag c y r hr=>(A2z (A37 (Impl.mono (Impl.app g2_h _) hle hag) (hag _ _ (D8 rfl)) (hag _ _ (D8 rfl)) (hag _ _ (D8 rfl)) hr)).frz⟩) hx6).frz)<|qm rfl<|es (ra1 rfl)<|wi h rfl (fun hc7 h=>?_) fun hc7 h=>?_
  ·refine s0<|qm rfl<|es (ra1 rfl)<|C5 ?_
   obtain rfl:=os h
   exact retq trivial (A6 rfl B6) (A5 rfl B5) (A3 A4 A8)
  ·refine C3<|s0<|qm rfl<|es (ra1 rfl)<|C5 ?_
   obtain rfl:=os h
   exact retq trivial (A6 rfl B6) (A5 rfl B5) (A3 A4 A8)
def N4 (a0:PaGown) (g1:(PaGown→Option ByteArray)) (a2:(List PaGown)) (a3:Int):Option Bool :=
 (g1 a0).bind fun x1 =>
 (idx a2 a3).bind fun x2 =>
 (g1 x2).bind fun x3 =>
 some (eqS x1 x3)
theorem A48 {c:Sc} {H:A1} {a0:PaGown} {g1:PaGown→Option ByteArray} {g1_i:Nat} {g1_f g1_c:List AV} (g1_h:Impl tab H g1_i g1_f g1_c g1 (fun y=>[(.agg (C1 y))]) (fun y=>[.s y])) {b1:Nat} (hb1:hcells H b1 = some [.fn (.func g1_i) g1_f g1_c]) {a2:(List PaGown)} {b2:Nat} (hb2:hcells H b2 = some ((cL 8 C1) a2)) {a3:Int} {b3:Nat} (hb3:hcells H b3 = some (cI a3)) {r:Bool} (h:N4 a0 g1 a2 a3 = some r) :
  E1 tab c H (.fn (.func 83) [] []) [(.agg (C1 a0)),.ptr b1 0,.ptr b2 0,.ptr b3 0] [.b r]:= by
 unfold N4 at h
 refine cE rfl rfl<|sg 0 rfl<|A0 (E5 (cs:=C1 a0) rfl rfl rfl) rfl<|qm rfl<|es (ra4 rfl rfl rfl rfl)<|s0<|oB h fun x1 hx1 h=>oB h fun x2 hx2 h=>oB h fun x3 hx3 h=>A0 (F7 (x:=(.fn (.func g1_i) g1_f g1_c)) rfl hb1 rfl) rfl<|A0 (D2 rfl rfl rfl) rfl<|U1 (rs:=[.s x1]) rfl rfl (T0 rfl A0e) (A2 (D0 rfl) B7) (Impl.callP g1_h hx1 _)<|A0 (F7 (x:=(.fn (.func g1_i) g1_f g1_c)) rfl hb1 rfl) rfl<|A0 (F7 rfl hb2 rfl) rfl<|A0 (F7 rfl hb3 rfl) rfl<|A0 (E9 (f:=C1) rfl rfl hx2) rfl<|A0 (F5 rfl rfl) rfl<|B8 (rs:=[.s x3]) rfl rfl (A2 (D0 rfl) B7) (Impl.call g1_h hx3 _)<|A0 (D0i rfl rfl) rfl<|qm rfl<|es (ra1 rfl)<|C5 ?_
 obtain rfl:=os h
 exact retq trivial (A6 rfl B6) (A5 rfl B5) (A3 A4 A8)
def K6 (a0:(List PaGown)) (g1:(PaGown→Option Bool)) (s1:Int):Option (Int ⊕ (Int ⊕ Unit)) :=
 if (decide (s1 < (List.length a0:Int))) = true then
  (idx a0 s1).bind fun x4 =>
  (g1 x4).bind fun x5 =>
  if x5 = true then
  some (.inr (.inl s1))
  else
  some (.inl (w64 (s1 + 1)))
 else
  some (.inr (.inr ()))
def M2 (a0:(List PaGown)) (g1:(PaGown→Option Bool)):Option Int :=
 (loop (K6 a0 g1) 0).bind fun (o7:(Int ⊕ Unit)) =>
 match o7 with
 | (.inl vo7_0) =>
  some vo7_0
 | (.inr vo7_1) =>
  some (-1)
theorem Y1 {c:Sc} {H:A1} {a0:(List PaGown)} {g1:PaGown→Option Bool} {g1_i:Nat} {g1_f g1_c:List AV} (g1_h:Impl tab H g1_i g1_f g1_c g1 (fun y=>[(.agg (C1 y))]) (fun y=>[.b y])) {r:Int} (h:M2 a0 g1 = some r) :
  E1 tab c H (.fn (.func 110) [] []) [(.seq 8 (List.map C1 a0)),.fn (.func g1_i) g1_f g1_c] [.i r]:= by
 unfold M2 at h
 refine cE rfl rfl<|s0<|qm rfl<|es (ra2 rfl rfl)<|C2<|s0<|qm rfl<|A0 (F6 (f:=C1) rfl) rfl<|qm rfl<|es (ra4 rfl rfl rfl rfl)<|C6<|oB h fun o7 ho7 h=>wl (fun s1=>[(0,(.seq 8 (List.map C1 a0))),(1,(.fn (.func g1_i) g1_f g1_c)),(7,(.i (List.length a0:Int))),(8,.i s1)]) (fun (q2:Unit) s1=>[]) 0 (fun r e s' H'=>(match r with | (.inl v)=>e = .ret∧RetQ H [.tmp 4] [.i v] e s' H' | (.inr v)=>PX 0 [] (H++[]) e s' H':Prop)) () ho7 rfl rfl (fun _ _=>rfl) (fun _=>rfl) rfl (fun s1=>(bdc K0 (bdc (C21 g1_h.1) (bdc A4 (bdc A4 bdn))))) (fun q2 s1 ys1 hs1=>?_) ?_
 ·unfold K6 at hs1
  refine s0<|A0 (I0 rfl rfl) rfl<|es (ra5 rfl rfl rfl rfl rfl)<|C2<|wi hs1 rfl (fun hc3 hs1=>?_) fun hc3 hs1=>?_
  ·refine C3<|C2<|C6<|s0<|qm rfl<|qm rfl<|es (ra5 rfl rfl rfl rfl rfl)<|s0<|oB hs1 fun x4 hx4 hs1=>oB hs1 fun x5 hx5 hs1=>qm rfl<|qm rfl<|qm rfl<|A0 (E9 (f:=C1) rfl rfl hx4) rfl<|A0 (F5 rfl rfl) rfl<|B8 (rs:=[.b x5]) rfl rfl (A2 (D0 rfl) B7) (Impl.call g1_h hx5 _)<|es (ra6 rfl rfl rfl rfl rfl rfl)<|wi hs1 rfl (fun hc6 hs1=>?_) fun hc6 hs1=>?_
   ·refine s0<|qm rfl<|qm rfl<|es (ra1 rfl)<|C5 ?_
    obtain rfl:=os hs1
    exact lx rfl (And.intro rfl (retq trivial (A6 rfl B6) (A5 rfl B5) (A3 A4 A8))) (Sub.refl _)
   ·refine C3<|r0<|A0 (F2 rfl rfl) rfl<|qm rfl<|en (ra4 rfl rfl rfl rfl) ?_
    cases hs1
    exact lnT () rfl (su4 rfl rfl rfl rfl)
  ·refine G6 ?_
   obtain rfl:=os hs1
   exact lx rfl px (.nil _)
 ·rcases o7 with vo7_0 | vo7_1
  ·rintro e s' H' - ⟨rfl,hret⟩
   cases h
   exact hret
  ·rintro e s' H' - ⟨rfl,rfl,rfl⟩
   refine s0<|qm rfl<|es (ra1 rfl)<|C5 ?_
   obtain rfl:=os h
   exact retq trivial (A6 rfl B6) (A5 rfl B5) (A3 A4 A8)
def I2 (a0:(List PaGown)) (g1:(PaGown→Option Bool)):Option Bool :=
 (M2 a0 g1).bind fun x1 =>
 some (decide (x1 ≥ 0))
theorem V6 {c:Sc} {H:A1} {a0:(List PaGown)} {g1:PaGown→Option Bool} {g1_i:Nat} {g1_f g1_c:List AV} (g1_h:Impl tab H g1_i g1_f g1_c g1 (fun y=>[(.agg (C1 y))]) (fun y=>[.b y])) {r:Bool} (h:I2 a0 g1 = some r) :
  E1 tab c H (.fn (.func 82) [] []) [(.seq 8 (List.map C1 a0)),.fn (.func g1_i) g1_f g1_c] [.b r]:= by
 unfold I2 at h
 refine cE rfl rfl<|s0<|qm rfl<|es (ra2 rfl rfl)<|s0<|oB h fun x1 hx1 h=>qm rfl<|qm rfl<|B8 (rs:=[.i x1]) rfl rfl (A2 rfl (A2 rfl B7)) ((Y1 (Impl.app g1_h _) hx1).frz)<|A0 (A71 rfl rfl) rfl<|qm rfl<|es (ra1 rfl)<|C5 ?_
 obtain rfl:=os h
 exact retq trivial (A6 rfl B6) (A5 rfl B5) (A3 A4 A8)
def O9 (a0:(List PaGown)) (a1:Int) (g2:(PaGown→Option ByteArray)):Option Int :=
 (idx a0 a1).bind fun x1 =>
 (g2 x1).bind fun x2 =>
 (A26 x2).bind fun x3 =>
 if (!x3) = true then
  some 6
 else
  (slc a0 0 a1).bind fun x5 =>
  (I2 x5 (fun (y:PaGown)=>N4 y g2 a0 a1)).bind fun x6 =>
  if x6 = true then
  some 5
  else
  some 0
theorem A6c {c:Sc} {H:A1} {a0:(List PaGown)} {a1:Int} {g2:PaGown→Option ByteArray} {g2_i:Nat} {g2_f g2_c:List AV} (g2_h:Impl tab H g2_i g2_f g2_c g2 (fun y=>[(.agg (C1 y))]) (fun y=>[.s y])) {r:Int} (h:O9 a0 a1 g2 = some r) :
  E1 tab c H (.fn (.func 41) [] []) [(.seq 8 (List.map C1 a0)),.i a1,.fn (.func g2_i) g2_f g2_c] [.i r]:= by
 unfold O9 at h
 refine cE rfl rfl<|sg 0 rfl<|A0 (E5 (cs:=(cL 8 C1) a0) rfl rfl rfl) rfl<|A0 (E5 (cs:=cI a1) rfl rfl rfl) rfl<|A0 (E5 (cs:=[(.fn (.func g2_i) g2_f g2_c)]) rfl rfl rfl) rfl<|qm rfl<|es (ra3 rfl rfl rfl)<|C2<|C6<|s0<|oB h fun x1 hx1 h=>oB h fun x2 hx2 h=>oB h fun x3 hx3 h=>A0 (B2 (x:=(.fn (.func g2_i) g2_f g2_c)) rfl rfl rfl) rfl<|A0 (B2 rfl rfl rfl) rfl<|A0 (B2 rfl rfl rfl) rfl<|A0 (E9 (f:=C1) rfl rfl hx1) rfl<|A0 (F5 rfl rfl) rfl<|B8 (rs:=[.s x2]) rfl rfl (A2 (D0 rfl) B7) (Impl.call g2_h hx2 _)<|B8 (rs:=[.b x3]) rfl rfl (A2 rfl B7) ((B0j hx3).frz)<|A0 (Q8 rfl) rfl<|qm rfl<|es (ra4 rfl rfl rfl rfl)<|wi h rfl (fun hc4 h=>?_) fun hc4 h=>?_
 ·refine s0<|qm rfl<|es (ra1 rfl)<|C5 ?_
  obtain rfl:=os h
  exact retq trivial (A6 rfl B6) (A5 rfl B5) (A3 A4 A8)
 ·refine s0<|oB h fun x5 hx5 h=>oB h fun x6 hx6 h=>A0 (B2 rfl rfl rfl) rfl<|A0 (B2 rfl rfl rfl) rfl<|A0 (C36 (f:=C1) rfl rfl rfl hx5) rfl<|A0 (A28 rfl rfl) rfl<|B8 (rs:=[.b x6]) rfl rfl (A2 rfl (A2 rfl B7)) ((V6 (show Impl _ _ 83 [] [(.ptr (H.length + 2) 0),(.ptr (H.length + 0) 0),(.ptr (H.length + 1) 0)] (fun (y:PaGown)=>N4 y g2 a0 a1) (fun (y:PaGown)=>[(.agg (C1 y))]) (fun (y:Bool)=>[.b y]) from ⟨⟨A8,(by rw [List.length_append]; exact (A3 (K8 rfl) (A3 (K8 rfl) (A3 (K8 rfl) A8))))⟩,fun H' hle hag c y r hr=>(A2z (A48 (Impl.mono (Impl.app g2_h _) hle hag) (hag _ _ (D8 rfl)) (hag _ _ (D8 rfl)) (hag _ _ (D8 rfl)) hr)).frz⟩) hx6).frz)<|qm rfl<|es (ra1 rfl)<|wi h rfl (fun hc7 h=>?_) fun hc7 h=>?_
  ·refine s0<|qm rfl<|es (ra1 rfl)<|C5 ?_
   obtain rfl:=os h
   exact retq trivial (A6 rfl B6) (A5 rfl B5) (A3 A4 A8)
  ·refine C3<|s0<|qm rfl<|es (ra1 rfl)<|C5 ?_
   obtain rfl:=os h
   exact retq trivial (A6 rfl B6) (A5 rfl B5) (A3 A4 A8)
def A0g (a0:Int) (a1:Int) (a2:Int):Option Bool :=
 some ((decide (a0 < a1)) || (decide (a0 > a2)))
theorem B2h {c:Sc} {H:A1} {a0:Int} {a1:Int} {b1:Nat} (hb1:hcells H b1 = some (cI a1)) {a2:Int} {b2:Nat} (hb2:hcells H b2 = some (cI a2)) {r:Bool} (h:A0g a0 a1 a2 = some r) :
  E1 tab c H (.fn (.func 87) [] []) [.i a0,.ptr b1 0,.ptr b2 0] [.b r]:= by
 unfold A0g at h
 refine cE rfl rfl<|s0<|qm rfl<|es (ra3 rfl rfl rfl)<|s0<|qm rfl<|A0 (F7 rfl hb1 rfl) rfl<|A0 (I0 rfl rfl) rfl<|qm rfl<|gp 4 12 (.b ((decide (a0 < a1)) || (decide (a0 > a2)))) 8 rfl rfl (fun hg1=>?_) (fun hg1=>?_) ?_
 ·exact nF rfl hg1 rfl<|nF rfl hg1 rfl<|nF rfl hg1 rfl<|A0 (C8 rfl hg1 rfl) rfl<|ge 4 (by rw [hg1]; rfl) rfl rfl
 ·exact gF rfl hg1<|qm rfl<|gF rfl hg1<|A0 (F7 rfl hb2 rfl) rfl<|gF rfl hg1<|A0 (Y8 rfl rfl) rfl<|A0 (C7 rfl hg1 rfl) rfl<|ge 4 (by rw [hg1]; rfl) rfl rfl
 refine qm rfl<|es (ra1 rfl)<|C5 ?_
 obtain rfl:=os h
 exact retq trivial (A6 rfl B6) (A5 rfl B5) (A3 A4 A8)
def R5 (a0:(List Int)) (g1:(Int→Option Bool)) (s1:Int):Option (Int ⊕ (Int ⊕ Unit)) :=
 if (decide (s1 < (List.length a0:Int))) = true then
  (idx a0 s1).bind fun x4 =>
  (g1 x4).bind fun x5 =>
  if x5 = true then
  some (.inr (.inl s1))
  else
  some (.inl (w64 (s1 + 1)))
 else
  some (.inr (.inr ()))
def V0 (a0:(List Int)) (g1:(Int→Option Bool)):Option Int :=
 (loop (R5 a0 g1) 0).bind fun (o7:(Int ⊕ Unit)) =>
 match o7 with
 | (.inl vo7_0) =>
  some vo7_0
 | (.inr vo7_1) =>
  some (-1)
theorem A4i {c:Sc} {H:A1} {a0:(List Int)} {g1:Int→Option Bool} {g1_i:Nat} {g1_f g1_c:List AV} (g1_h:Impl tab H g1_i g1_f g1_c g1 (fun y=>[.i y]) (fun y=>[.b y])) {r:Int} (h:V0 a0 g1 = some r) :
  E1 tab c H (.fn (.func 112) [] []) [(.seq 1 (List.map cI a0)),.fn (.func g1_i) g1_f g1_c] [.i r]:= by
 unfold V0 at h
 refine cE rfl rfl<|s0<|qm rfl<|es (ra2 rfl rfl)<|C2<|s0<|qm rfl<|A0 (F6 (f:=cI) rfl) rfl<|qm rfl<|es (ra4 rfl rfl rfl rfl)<|C6<|oB h fun o7 ho7 h=>wl (fun s1=>[(0,(.seq 1 (List.map cI a0))),(1,(.fn (.func g1_i) g1_f g1_c)),(7,(.i (List.length a0:Int))),(8,.i s1)]) (fun (q2:Unit) s1=>[]) 0 (fun r e s' H'=>(match r with | (.inl v)=>e = .ret∧RetQ H [.tmp 4] [.i v] e s' H' | (.inr v)=>PX 0 [] (H++[]) e s' H':Prop)) () ho7 rfl rfl (fun _ _=>rfl) (fun _=>rfl) rfl (fun s1=>(bdc K0 (bdc (C21 g1_h.1) (bdc A4 (bdc A4 bdn))))) (fun q2 s1 ys1 hs1=>?_) ?_
 ·unfold R5 at hs1
  refine s0<|A0 (I0 rfl rfl) rfl<|es (ra5 rfl rfl rfl rfl rfl)<|C2<|wi hs1 rfl (fun hc3 hs1=>?_) fun hc3 hs1=>?_
  ·refine C3<|C2<|C6<|s0<|qm rfl<|qm rfl<|es (ra5 rfl rfl rfl rfl rfl)<|s0<|oB hs1 fun x4 hx4 hs1=>oB hs1 fun x5 hx5 hs1=>qm rfl<|qm rfl<|qm rfl<|A0 (E9 (f:=cI) rfl rfl hx4) rfl<|A0 (L2 rfl rfl) rfl<|B8 (rs:=[.b x5]) rfl rfl (A2 rfl B7) (Impl.call g1_h hx5 _)<|es (ra6 rfl rfl rfl rfl rfl rfl)<|wi hs1 rfl (fun hc6 hs1=>?_) fun hc6 hs1=>?_
   ·refine s0<|qm rfl<|qm rfl<|es (ra1 rfl)<|C5 ?_
    obtain rfl:=os hs1
    exact lx rfl (And.intro rfl (retq trivial (A6 rfl B6) (A5 rfl B5) (A3 A4 A8))) (Sub.refl _)
   ·refine C3<|r0<|A0 (F2 rfl rfl) rfl<|qm rfl<|en (ra4 rfl rfl rfl rfl) ?_
    cases hs1
    exact lnT () rfl (su4 rfl rfl rfl rfl)
  ·refine G6 ?_
   obtain rfl:=os hs1
   exact lx rfl px (.nil _)
 ·rcases o7 with vo7_0 | vo7_1
  ·rintro e s' H' - ⟨rfl,hret⟩
   cases h
   exact hret
  ·rintro e s' H' - ⟨rfl,rfl,rfl⟩
   refine s0<|qm rfl<|es (ra1 rfl)<|C5 ?_
   obtain rfl:=os h
   exact retq trivial (A6 rfl B6) (A5 rfl B5) (A3 A4 A8)
def N5 (a0:(List Int)) (g1:(Int→Option Bool)):Option Bool :=
 (V0 a0 g1).bind fun x1 =>
 some (decide (x1 ≥ 0))
theorem A3a {c:Sc} {H:A1} {a0:(List Int)} {g1:Int→Option Bool} {g1_i:Nat} {g1_f g1_c:List AV} (g1_h:Impl tab H g1_i g1_f g1_c g1 (fun y=>[.i y]) (fun y=>[.b y])) {r:Bool} (h:N5 a0 g1 = some r) :
  E1 tab c H (.fn (.func 86) [] []) [(.seq 1 (List.map cI a0)),.fn (.func g1_i) g1_f g1_c] [.b r]:= by
 unfold N5 at h
 refine cE rfl rfl<|s0<|qm rfl<|es (ra2 rfl rfl)<|s0<|oB h fun x1 hx1 h=>qm rfl<|qm rfl<|B8 (rs:=[.i x1]) rfl rfl (A2 rfl (A2 rfl B7)) ((A4i (Impl.app g1_h _) hx1).frz)<|A0 (A71 rfl rfl) rfl<|qm rfl<|es (ra1 rfl)<|C5 ?_
 obtain rfl:=os h
 exact retq trivial (A6 rfl B6) (A5 rfl B5) (A3 A4 A8)
def E3 (a0:Int) (a1:Int) (a2:(List Int)):Option Bool :=
 (N5 a2 (fun (y:Int)=>A0g y a0 a1)).bind fun x1 =>
 some x1
theorem F1 {c:Sc} {H:A1} {a0:Int} {a1:Int} {a2:(List Int)} {r:Bool} (h:E3 a0 a1 a2 = some r) :
  E1 tab c H (.fn (.func 46) [] []) [.i a0,.i a1,(.seq 1 (List.map cI a2))] [.b r]:= by
 unfold E3 at h
 refine cE rfl rfl<|sg 0 rfl<|A0 (E5 (cs:=cI a0) rfl rfl rfl) rfl<|A0 (E5 (cs:=cI a1) rfl rfl rfl) rfl<|qm rfl<|es (ra3 rfl rfl rfl)<|s0<|oB h fun x1 hx1 h=>qm rfl<|A0 (A28 rfl rfl) rfl<|B8 (rs:=[.b x1]) rfl rfl (A2 rfl (A2 rfl B7)) ((A3a (show Impl _ _ 87 [] [(.ptr (H.length + 0) 0),(.ptr (H.length + 1) 0)] (fun (y:Int)=>A0g y a0 a1) (fun (y:Int)=>[.i y]) (fun (y:Bool)=>[.b y]) from ⟨⟨A8,(by rw [List.length_append]; exact (A3 (K8 rfl) (A3 (K8 rfl) A8)))⟩,fun H' hle hag c y r hr=>(A2z (B2h (hag _ _ (D8 rfl)) (hag _ _ (D8 rfl)) hr)).frz⟩) hx1).frz)<|qm rfl<|es (ra1 rfl)<|C5 ?_
 obtain rfl:=os h
 exact retq trivial (A6 rfl B6) (A5 rfl B5) (A3 A4 A8)
def A5a (a0:PaGown):Option Bool :=
 if (!a0.Pawn) = true then
  (E3 0 15 [a0.Looks]).bind fun x2 =>
  (if x2 = true then
  some true
  else
  (E3 0 0 [a0.Loan,a0.Rate,a0.Fee,a0.Ago,a0.Last]).bind fun x4 =>
  some x4).bind fun x5 =>
  some x5
 else
  (E3 0 15 [a0.Looks]).bind fun x6 =>
  (if x6 = true then
  some true
  else
  (E3 0 5000 [a0.Loan]).bind fun x8 =>
  some x8).bind fun x9 =>
  (if x9 = true then
  some true
  else
  (E3 0 500 [a0.Rate]).bind fun x11 =>
  some x11).bind fun x12 =>
  (if x12 = true then
  some true
  else
  (E3 0 100 [a0.Fee]).bind fun x14 =>
  some x14).bind fun x15 =>
  (if x15 = true then
  some true
  else
  (E3 0 364 [a0.Ago,a0.Last]).bind fun x17 =>
  some x17).bind fun x18 =>
  some x18
theorem B87 {c:Sc} {H:A1} {a0:PaGown} {r:Bool} (h:A5a a0 = some r) :
  E1 tab c H (.fn (.func 43) [] []) [(.agg (C1 a0))] [.b r]:= by
 unfold A5a at h
 refine cE rfl rfl<|sg 0 rfl<|A0 (E5 (cs:=C1 a0) rfl rfl rfl) rfl<|qm rfl<|es (ra1 rfl)<|C2<|s0<|A0 (B9 rfl) rfl<|A0 (B2 rfl rfl rfl) rfl<|A0 (Q8 rfl) rfl<|es (ra2 rfl rfl)<|wi h rfl (fun hc1 h=>?_) fun hc1 h=>?_
 ·refine s0<|oB h fun x2 hx2 h=>oB h fun x5 hx5 h=>A0 (B9 rfl) rfl<|A0 (B2 rfl rfl rfl) rfl<|A0 (J4 (rows:=List.map cI [a0.Looks]) rfl rfl (E4 (fun _=>rfl) _)) rfl<|B8 (rs:=[.b x2]) rfl rfl (A2 rfl (A2 rfl (A2 rfl B7))) ((F1 hx2).frz)<|qm rfl<|gp 13 23 (.b x5) 10 rfl rfl (fun hg3=>?_) (fun hg3=>?_) ?_
  ·obtain rfl:=os (bt hx5 hg3)
   exact nF rfl hg3 rfl<|nF rfl hg3 rfl<|nF rfl hg3 rfl<|nF rfl hg3 rfl<|nF rfl hg3 rfl<|nF rfl hg3 rfl<|nF rfl hg3 rfl<|nF rfl hg3 rfl<|nF rfl hg3 rfl<|nF rfl hg3 rfl<|nF rfl hg3 rfl<|H6 (E0 rfl (by rw [hg3]; rfl)) rfl<|A0 (C8 rfl hg3 rfl) rfl<|ge 13 rfl rfl rfl
  ·refine oB (bf hx5 hg3) fun x4 hx4 hx5=>?_
   obtain rfl:=os hx5
   exact gF rfl hg3<|A0 (B9 rfl) rfl<|gF rfl hg3<|A0 (B2 rfl rfl rfl) rfl<|gF rfl hg3<|A0 (B9 rfl) rfl<|gF rfl hg3<|A0 (B2 rfl rfl rfl) rfl<|gF rfl hg3<|A0 (B9 rfl) rfl<|gF rfl hg3<|A0 (B2 rfl rfl rfl) rfl<|gF rfl hg3<|A0 (B9 rfl) rfl<|gF rfl hg3<|A0 (B2 rfl rfl rfl) rfl<|gF rfl hg3<|A0 (B9 rfl) rfl<|gF rfl hg3<|A0 (B2 rfl rfl rfl) rfl<|gF rfl hg3<|A0 (J4 (rows:=List.map cI [a0.Loan,a0.Rate,a0.Fee,a0.Ago,a0.Last]) rfl rfl (E4 (fun _=>rfl) _)) rfl<|gF rfl hg3<|B8 (rs:=[.b x4]) rfl rfl (A2 rfl (A2 rfl (A2 rfl B7))) ((F1 hx4).frz)<|A0 (C7 rfl hg3 rfl) rfl<|ge 13 rfl rfl rfl
  refine qm rfl<|es (ra1 rfl)<|C5 ?_
  obtain rfl:=os h
  exact retq trivial (A6 rfl B6) (A5 rfl B5) (A3 A4 A8)
 ·refine C3<|s0<|oB h fun x6 hx6 h=>oB h fun x9 hx9 h=>oB h fun x12 hx12 h=>oB h fun x15 hx15 h=>oB h fun x18 hx18 h=>A0 (B9 rfl) rfl<|A0 (B2 rfl rfl rfl) rfl<|A0 (J4 (rows:=List.map cI [a0.Looks]) rfl rfl (E4 (fun _=>rfl) _)) rfl<|B8 (rs:=[.b x6]) rfl rfl (A2 rfl (A2 rfl (A2 rfl B7))) ((F1 hx6).frz)<|qm rfl<|gp 5 33 (.b x9) 28 rfl rfl (fun hg7=>?_) (fun hg7=>?_) ?_
  ·obtain rfl:=os (bt hx9 hg7)
   exact nF rfl hg7 rfl<|nF rfl hg7 rfl<|nF rfl hg7 rfl<|H6 (E0 rfl (by rw [hg7]; rfl)) rfl<|A0 (C8 rfl hg7 rfl) rfl<|ge 5 rfl rfl rfl
  ·refine oB (bf hx9 hg7) fun x8 hx8 hx9=>?_
   obtain rfl:=os hx9
   exact gF rfl hg7<|A0 (B9 rfl) rfl<|gF rfl hg7<|A0 (B2 rfl rfl rfl) rfl<|gF rfl hg7<|A0 (J4 (rows:=List.map cI [a0.Loan]) rfl rfl (E4 (fun _=>rfl) _)) rfl<|gF rfl hg7<|B8 (rs:=[.b x8]) rfl rfl (A2 rfl (A2 rfl (A2 rfl B7))) ((F1 hx8).frz)<|A0 (C7 rfl hg7 rfl) rfl<|ge 5 rfl rfl rfl
  refine qm rfl<|gp 5 39 (.b x12) 34 rfl rfl (fun hg10=>?_) (fun hg10=>?_) ?_
  ·obtain rfl:=os (bt hx12 hg10)
   exact nF rfl hg10 rfl<|nF rfl hg10 rfl<|nF rfl hg10 rfl<|H6 (E0 rfl (by rw [hg10]; rfl)) rfl<|A0 (C8 rfl hg10 rfl) rfl<|ge 5 rfl rfl rfl
  ·refine oB (bf hx12 hg10) fun x11 hx11 hx12=>?_
   obtain rfl:=os hx12
   exact gF rfl hg10<|A0 (B9 rfl) rfl<|gF rfl hg10<|A0 (B2 rfl rfl rfl) rfl<|gF rfl hg10<|A0 (J4 (rows:=List.map cI [a0.Rate]) rfl rfl (E4 (fun _=>rfl) _)) rfl<|gF rfl hg10<|B8 (rs:=[.b x11]) rfl rfl (A2 rfl (A2 rfl (A2 rfl B7))) ((F1 hx11).frz)<|A0 (C7 rfl hg10 rfl) rfl<|ge 5 rfl rfl rfl
  refine qm rfl<|gp 5 45 (.b x15) 40 rfl rfl (fun hg13=>?_) (fun hg13=>?_) ?_
  ·obtain rfl:=os (bt hx15 hg13)
   exact nF rfl hg13 rfl<|nF rfl hg13 rfl<|nF rfl hg13 rfl<|H6 (E0 rfl (by rw [hg13]; rfl)) rfl<|A0 (C8 rfl hg13 rfl) rfl<|ge 5 rfl rfl rfl
  ·refine oB (bf hx15 hg13) fun x14 hx14 hx15=>?_
   obtain rfl:=os hx15
   exact gF rfl hg13<|A0 (B9 rfl) rfl<|gF rfl hg13<|A0 (B2 rfl rfl rfl) rfl<|gF rfl hg13<|A0 (J4 (rows:=List.map cI [a0.Fee]) rfl rfl (E4 (fun _=>rfl) _)) rfl<|gF rfl hg13<|B8 (rs:=[.b x14]) rfl rfl (A2 rfl (A2 rfl (A2 rfl B7))) ((F1 hx14).frz)<|A0 (C7 rfl hg13 rfl) rfl<|ge 5 rfl rfl rfl
  refine qm rfl<|gp 7 53 (.b x18) 46 rfl rfl (fun hg16=>?_) (fun hg16=>?_) ?_
  ·obtain rfl:=os (bt hx18 hg16)
   exact nF rfl hg16 rfl<|nF rfl hg16 rfl<|nF rfl hg16 rfl<|nF rfl hg16 rfl<|nF rfl hg16 rfl<|H6 (E0 rfl (by rw [hg16]; rfl)) rfl<|A0 (C8 rfl hg16 rfl) rfl<|ge 7 rfl rfl rfl
  ·refine oB (bf hx18 hg16) fun x17 hx17 hx18=>?_
   obtain rfl:=os hx18
   exact gF rfl hg16<|A0 (B9 rfl) rfl<|gF rfl hg16<|A0 (B2 rfl rfl rfl) rfl<|gF rfl hg16<|A0 (B9 rfl) rfl<|gF rfl hg16<|A0 (B2 rfl rfl rfl) rfl<|gF rfl hg16<|A0 (J4 (rows:=List.map cI [a0.Ago,a0.Last]) rfl rfl (E4 (fun _=>rfl) _)) rfl<|gF rfl hg16<|B8 (rs:=[.b x17]) rfl rfl (A2 rfl (A2 rfl (A2 rfl B7))) ((F1 hx17).frz)<|A0 (C7 rfl hg16 rfl) rfl<|ge 7 rfl rfl rfl
  refine qm rfl<|es (ra1 rfl)<|C5 ?_
  obtain rfl:=os h
  exact retq trivial (A6 rfl B6) (A5 rfl B5) (A3 A4 A8)
def A1d (a0:PaShow) (s2:Int):Option (Int ⊕ ((Int × Int × Int) ⊕ Unit)) :=
 if (decide (s2 < (List.length a0.Gowns:Int))) = true then
  (idx a0.Gowns s2).bind fun x5 =>
  (O9 a0.Gowns s2 (fun (y:PaGown)=>A0v y)).bind fun x6 =>
  (if (x6 == 0) = true then
  (A5a x5).bind fun x8 =>
  some x8
  else
  some false).bind fun x9 =>
  if x9 = true then
  some (.inr (.inl (1,s2,7)))
  else
  if (x6 != 0) = true then
   some (.inr (.inl (1,s2,x6)))
  else
   some (.inl (w64 (s2 + 1)))
 else
  some (.inr (.inr ()))
def A1e (a0:PaShow) (s14:Int):Option (Int ⊕ ((Int × Int × Int) ⊕ Unit)) :=
 if (decide (s14 < (List.length a0.Figures:Int))) = true then
  (idx a0.Figures s14).bind fun x17 =>
  (N3 a0.Figures s14 (fun (y:PaFigure)=>A0w y)).bind fun x18 =>
  if (x18 != 0) = true then
  some (.inr (.inl (2,s14,x18)))
  else
  (E3 0 364 [x17.Day,x17.Until]).bind fun x20 =>
  (if x20 = true then
   some true
  else
   (E3 0 15 [x17.Needs]).bind fun x22 =>
   some x22).bind fun x23 =>
  if x23 = true then
   some (.inr (.inl (2,s14,7)))
  else
   if (decide (x17.Day > x17.Until)) = true then
   some (.inr (.inl (2,s14,2)))
   else
   some (.inl (w64 (s14 + 1)))
 else
  some (.inr (.inr ()))
def A1f (a0:PaShow) (s30:Int):Option (Int ⊕ ((Int × Int × Int) ⊕ Unit)) :=
 if (decide (s30 < (List.length a0.Incomes:Int))) = true then
  (idx a0.Incomes s30).bind fun x33 =>
  (E3 0 364 [x33.Day]).bind fun x34 =>
  (if x34 = true then
  some true
  else
  (E3 0 10000 [x33.Pence]).bind fun x36 =>
  some x36).bind fun x37 =>
  if x37 = true then
  some (.inr (.inl (4,s30,7)))
  else
  some (.inl (w64 (s30 + 1)))
 else
  some (.inr (.inr ()))
def A1x (a0:PaShow):Option (Int × Int × Int) :=
 if (decide ((List.length a0.Gowns:Int) > 5)) = true then
  some (1,0,3)
 else
  (loop (A1d a0) 0).bind fun (o12:((Int × Int × Int) ⊕ Unit)) =>
  match o12 with
  | (.inl vo12_0) =>
  some vo12_0
  | (.inr vo12_1) =>
  if (decide ((List.length a0.Figures:Int) > 3)) = true then
   some (2,0,3)
  else
   (loop (A1e a0) 0).bind fun (o26:((Int × Int × Int) ⊕ Unit)) =>
   match o26 with
   | (.inl vo26_0) =>
   some vo26_0
   | (.inr vo26_1) =>
   (E3 0 10000 [a0.Purse]).bind fun x27 =>
   if x27 = true then
    some (3,0,7)
   else
    if (decide ((List.length a0.Incomes:Int) > 3)) = true then
    some (4,0,3)
    else
    (loop (A1f a0) 0).bind fun (o39:((Int × Int × Int) ⊕ Unit)) =>
    match o39 with
    | (.inl vo39_0) =>
     some vo39_0
    | (.inr vo39_1) =>
     some (0,0,0)
theorem A6a {c:Sc} {H:A1} {a0:PaShow} {r:(Int × Int × Int)} (h:A1x a0 = some r) :
  E1 tab c H (.fn (.func 10) [] []) [(.agg (B1 a0))] [.i r.1,.i r.2.1,.i r.2.2]:= by
 unfold A1x at h
 refine cE rfl rfl<|sg 0 rfl<|A0 (E5 (cs:=B1 a0) rfl rfl rfl) rfl<|qm rfl<|qm rfl<|qm rfl<|es (ra1 rfl)<|C2<|s0<|A0 (B9 rfl) rfl<|A0 (B2 rfl rfl rfl) rfl<|A0 (F6 (f:=C1) rfl) rfl<|A0 (Y8 rfl rfl) rfl<|es (ra2 rfl rfl)<|wi h rfl (fun hc1 h=>?_) fun hc1 h=>?_
 ·refine s0<|qm rfl<|qm rfl<|qm rfl<|es (ra3 rfl rfl rfl)<|C5 ?_
  obtain rfl:=os h
  exact retq trivial (A6 rfl (A6 rfl (A6 rfl B6))) (A5 rfl (A5 rfl (A5 rfl B5))) (A3 A4 (A3 A4 (A3 A4 A8)))
 ·refine C3<|C2<|s0<|A0 (B9 rfl) rfl<|A0 (B2 rfl rfl rfl) rfl<|A0 (F6 (f:=C1) rfl) rfl<|qm rfl<|es (ra4 rfl rfl rfl rfl)<|C6<|oB h fun o12 ho12 h=>wl (fun s2=>[(1,(.ptr (H.length + 0) 0)),(16,(.seq 8 (List.map C1 a0.Gowns))),(17,(.i (List.length a0.Gowns:Int))),(18,.i s2)]) (fun (q3:Unit) s2=>[(.cells (B1 a0))]) 1 (fun r e s' H'=>(match r with | (.inl v)=>e = .ret∧RetQ H [.tmp 2,.tmp 3,.tmp 4] [.i v.1,.i v.2.1,.i v.2.2] e s' H' | (.inr v)=>PX 0 [(1,(.ptr (H.length + 0) 0))] (H++[(.cells (B1 a0))]) e s' H':Prop)) () ho12 rfl rfl (fun _ _=>rfl) (fun _=>rfl) rfl (fun s2=>(bdc (K8 rfl) (bdc K0 (bdc A4 (bdc A4 bdn))))) (fun q3 s2 ys2 hs2=>?_) ?_
  ·unfold A1d at hs2
   refine s0<|A0 (I0 rfl rfl) rfl<|es (ra5 rfl rfl rfl rfl rfl)<|C2<|wi hs2 rfl (fun hc4 hs2=>?_) fun hc4 hs2=>?_
   ·refine C3<|C2<|C6<|sg 1 rfl<|oB hs2 fun x5 hx5 hs2=>qm rfl<|A0 (E9 (f:=C1) rfl rfl hx5) rfl<|A0 (F5 rfl rfl) rfl<|A0 I3 rfl<|qm rfl<|N9 (E8 (ds:=(C1 x5)) rfl rfl rfl rfl (E2 rfl) rfl) rfl<|es (ra6 rfl rfl rfl rfl rfl rfl)<|s0<|oB hs2 fun x6 hx6 hs2=>A0 (B9 rfl) rfl<|A0 (B2 rfl rfl rfl) rfl<|qm rfl<|B8 (rs:=[.i x6]) rfl rfl (A2 rfl (A2 rfl (A2 rfl B7))) ((A6c (show Impl _ _ 42 [] [] (fun (y:PaGown)=>A0v y) (fun (y:PaGown)=>[(.agg (C1 y))]) (fun (y:ByteArray)=>[.s y]) from ⟨⟨A8,A8⟩,fun H' hle hag c y r hr=>(B5n hr).frz⟩) hx6).frz)<|qm rfl<|es (ra7 rfl rfl rfl rfl rfl rfl rfl)<|C2<|s0<|oB hs2 fun x9 hx9 hs2=>qm rfl<|A0 (G0 rfl rfl) rfl<|qm rfl<|gp 3 32 (.b x9) 29 rfl rfl (fun hg7=>?_) (fun hg7=>?_) ?_
    ·refine oB (bt hx9 hg7) fun x8 hx8 hx9=>?_
     obtain rfl:=os hx9
     exact gT rfl hg7<|A0 (D2 rfl rfl rfl) rfl<|gT rfl hg7<|B8 (rs:=[.b x8]) rfl rfl (A2 (D0 rfl) B7) ((B87 hx8).frz)<|A0 (C8 rfl hg7 rfl) rfl<|ge 3 rfl rfl rfl
    ·obtain rfl:=os (bf hx9 hg7)
     exact nT rfl hg7 rfl<|H6 (E0 rfl (by rw [hg7]; rfl)) rfl<|A0 (C7 rfl hg7 rfl) rfl<|ge 3 rfl rfl rfl
    refine es (ra7 rfl rfl rfl rfl rfl rfl rfl)<|wi hs2 rfl (fun hc10 hs2=>?_) fun hc10 hs2=>?_
    ·refine r0<|qm rfl<|en (ra6 rfl rfl rfl rfl rfl rfl)<|s0<|qm rfl<|A0 (O8 (v:=(.b true)) rfl rfl rfl) rfl<|es (ra7 rfl rfl rfl rfl rfl rfl rfl)<|N6 rfl rfl<|s0<|qm rfl<|qm rfl<|qm rfl<|qm rfl<|qm rfl<|es (ra3 rfl rfl rfl)<|C5 ?_
     obtain rfl:=os hs2
     exact lx rfl (And.intro rfl (retq trivial (A6 rfl (A6 rfl (A6 rfl B6))) (A5 rfl (A5 rfl (A5 rfl B5))) (A3 A4 (A3 A4 (A3 A4 A8))))) (Sub.refl _)
    ·refine C3<|s0<|qm rfl<|A0 (J5 rfl rfl) rfl<|es (ra7 rfl rfl rfl rfl rfl rfl rfl)<|wi hs2 rfl (fun hc11 hs2=>?_) fun hc11 hs2=>?_
     ·refine s0<|qm rfl<|qm rfl<|qm rfl<|qm rfl<|qm rfl<|es (ra3 rfl rfl rfl)<|C5 ?_
      obtain rfl:=os hs2
      exact lx rfl (And.intro rfl (retq trivial (A6 rfl (A6 rfl (A6 rfl B6))) (A5 rfl (A5 rfl (A5 rfl B5))) (A3 A4 (A3 A4 (A3 A4 A8))))) (Sub.refl _)
     ·refine C3<|r0<|A0 (F2 rfl rfl) rfl<|qm rfl<|en (ra4 rfl rfl rfl rfl) ?_
      cases hs2
      exact lnT () rfl (su4 rfl rfl rfl rfl)
   ·refine G6 ?_
    obtain rfl:=os hs2
    exact lx rfl px (su1 rfl)
  ·rcases o12 with vo12_0 | vo12_1
   ·rintro e s' H' - ⟨rfl,hret⟩
    cases h
    exact hret
   ·rintro e s' H' - ⟨rfl,rfl,rfl⟩
    refine C2<|s0<|A0 (B9 rfl) rfl<|A0 (B2 rfl rfl rfl) rfl<|A0 (F6 (f:=B3) rfl) rfl<|A0 (Y8 rfl rfl) rfl<|es (ra2 rfl rfl)<|wi h rfl (fun hc13 h=>?_) fun hc13 h=>?_
    ·refine s0<|qm rfl<|qm rfl<|qm rfl<|es (ra3 rfl rfl rfl)<|C5 ?_
     obtain rfl:=os h
     exact retq trivial (A6 rfl (A6 rfl (A6 rfl B6))) (A5 rfl (A5 rfl (A5 rfl B5))) (A3 A4 (A3 A4 (A3 A4 A8)))
    ·refine C3<|C2<|s0<|A0 (B9 rfl) rfl<|A0 (B2 rfl rfl rfl) rfl<|A0 (F6 (f:=B3) rfl) rfl<|qm rfl<|es (ra4 rfl rfl rfl rfl)<|C6<|oB h fun o26 ho26 h=>wl (fun s14=>[(1,(.ptr (H.length + 0) 0)),(43,(.seq 4 (List.map B3 a0.Figures))),(44,(.i (List.length a0.Figures:Int))),(45,.i s14)]) (fun (q15:Unit) s14=>[(.cells (B1 a0))]) 1 (fun r e s' H'=>(match r with | (.inl v)=>e = .ret∧RetQ H [.tmp 2,.tmp 3,.tmp 4] [.i v.1,.i v.2.1,.i v.2.2] e s' H' | (.inr v)=>PX 2 [(1,(.ptr (H.length + 0) 0))] (H++[(.cells (B1 a0))]) e s' H':Prop)) () ho26 rfl rfl (fun _ _=>rfl) (fun _=>rfl) rfl (fun s14=>(bdc (K8 rfl) (bdc K0 (bdc A4 (bdc A4 bdn))))) (fun q15 s14 ys14 hs14=>?_) ?_
     ·unfold A1e at hs14
      refine s0<|A0 (I0 rfl rfl) rfl<|es (ra5 rfl rfl rfl rfl rfl)<|C2<|wi hs14 rfl (fun hc16 hs14=>?_) fun hc16 hs14=>?_
      ·refine C3<|C2<|C6<|sg 1 rfl<|oB hs14 fun x17 hx17 hs14=>qm rfl<|A0 (E9 (f:=B3) rfl rfl hx17) rfl<|A0 (F5 rfl rfl) rfl<|A0 I3 rfl<|qm rfl<|N9 (E8 (ds:=(B3 x17)) rfl rfl rfl rfl (E2 rfl) rfl) rfl<|es (ra6 rfl rfl rfl rfl rfl rfl)<|s0<|oB hs14 fun x18 hx18 hs14=>A0 (B9 rfl) rfl<|A0 (B2 rfl rfl rfl) rfl<|qm rfl<|B8 (rs:=[.i x18]) rfl rfl (A2 rfl (A2 rfl (A2 rfl B7))) ((A47 (show Impl _ _ 45 [] [] (fun (y:PaFigure)=>A0w y) (fun (y:PaFigure)=>[(.agg (B3 y))]) (fun (y:ByteArray)=>[.s y]) from ⟨⟨A8,A8⟩,fun H' hle hag c y r hr=>(B5o hr).frz⟩) hx18).frz)<|qm rfl<|es (ra7 rfl rfl rfl rfl rfl rfl rfl)<|C2<|C6<|s0<|qm rfl<|A0 (J5 rfl rfl) rfl<|qm rfl<|es (ra8 rfl rfl rfl rfl rfl rfl rfl rfl)<|wi hs14 rfl (fun hc19 hs14=>?_) fun hc19 hs14=>?_
       ·refine C3<|s0<|qm rfl<|A0 (J5 rfl rfl) rfl<|es (ra7 rfl rfl rfl rfl rfl rfl rfl)<|N6 rfl hc19<|s0<|qm rfl<|qm rfl<|qm rfl<|qm rfl<|qm rfl<|es (ra3 rfl rfl rfl)<|C5 ?_
        obtain rfl:=os hs14
        exact lx rfl (And.intro rfl (retq trivial (A6 rfl (A6 rfl (A6 rfl B6))) (A5 rfl (A5 rfl (A5 rfl B5))) (A3 A4 (A3 A4 (A3 A4 A8))))) (Sub.refl _)
       ·refine s0<|oB hs14 fun x20 hx20 hs14=>oB hs14 fun x23 hx23 hs14=>A0 (B9 rfl) rfl<|A0 (B2 rfl rfl rfl) rfl<|A0 (B9 rfl) rfl<|A0 (B2 rfl rfl rfl) rfl<|A0 (J4 (rows:=List.map cI [x17.Day,x17.Until]) rfl rfl (E4 (fun _=>rfl) _)) rfl<|B8 (rs:=[.b x20]) rfl rfl (A2 rfl (A2 rfl (A2 rfl B7))) ((F1 hx20).frz)<|qm rfl<|gp 5 69 (.b x23) 64 rfl rfl (fun hg21=>?_) (fun hg21=>?_) ?_
        ·obtain rfl:=os (bt hx23 hg21)
         exact nF rfl hg21 rfl<|nF rfl hg21 rfl<|nF rfl hg21 rfl<|H6 (E0 rfl (by rw [hg21]; rfl)) rfl<|A0 (C8 rfl hg21 rfl) rfl<|ge 5 rfl rfl rfl
        ·refine oB (bf hx23 hg21) fun x22 hx22 hx23=>?_
         obtain rfl:=os hx23
         exact gF rfl hg21<|A0 (B9 rfl) rfl<|gF rfl hg21<|A0 (B2 rfl rfl rfl) rfl<|gF rfl hg21<|A0 (J4 (rows:=List.map cI [x17.Needs]) rfl rfl (E4 (fun _=>rfl) _)) rfl<|gF rfl hg21<|B8 (rs:=[.b x22]) rfl rfl (A2 rfl (A2 rfl (A2 rfl B7))) ((F1 hx22).frz)<|A0 (C7 rfl hg21 rfl) rfl<|ge 5 rfl rfl rfl
        refine qm rfl<|es (ra8 rfl rfl rfl rfl rfl rfl rfl rfl)<|wi hs14 rfl (fun hc24 hs14=>?_) fun hc24 hs14=>?_
        ·refine r0<|qm rfl<|en (ra6 rfl rfl rfl rfl rfl rfl)<|s0<|qm rfl<|A0 (O8 (v:=(.b true)) rfl rfl rfl) rfl<|es (ra7 rfl rfl rfl rfl rfl rfl rfl)<|N6 rfl rfl<|s0<|qm rfl<|qm rfl<|qm rfl<|qm rfl<|qm rfl<|es (ra3 rfl rfl rfl)<|C5 ?_
         obtain rfl:=os hs14
         exact lx rfl (And.intro rfl (retq trivial (A6 rfl (A6 rfl (A6 rfl B6))) (A5 rfl (A5 rfl (A5 rfl B5))) (A3 A4 (A3 A4 (A3 A4 A8))))) (Sub.refl _)
        ·refine s0<|A0 (B9 rfl) rfl<|A0 (B2 rfl rfl rfl) rfl<|A0 (B9 rfl) rfl<|A0 (B2 rfl rfl rfl) rfl<|A0 (Y8 rfl rfl) rfl<|qm rfl<|es (ra7 rfl rfl rfl rfl rfl rfl rfl)<|wi hs14 rfl (fun hc25 hs14=>?_) fun hc25 hs14=>?_
         ·refine r0<|qm rfl<|en (ra6 rfl rfl rfl rfl rfl rfl)<|s0<|qm rfl<|A0 (O8 (v:=(.b true)) rfl rfl rfl) rfl<|es (ra7 rfl rfl rfl rfl rfl rfl rfl)<|N6 rfl rfl<|s0<|qm rfl<|qm rfl<|qm rfl<|qm rfl<|qm rfl<|es (ra3 rfl rfl rfl)<|C5 ?_
          obtain rfl:=os hs14
          exact lx rfl (And.intro rfl (retq trivial (A6 rfl (A6 rfl (A6 rfl B6))) (A5 rfl (A5 rfl (A5 rfl B5))) (A3 A4 (A3 A4 (A3 A4 A8))))) (Sub.refl _)
         ·refine C3<|s0<|qm rfl<|A0 (J5 rfl rfl) rfl<|es (ra7 rfl rfl rfl rfl rfl rfl rfl)<|P7 rfl hc19<|C3<|r0<|A0 (F2 rfl rfl) rfl<|qm rfl<|en (ra4 rfl rfl rfl rfl) ?_
          cases hs14
          exact lnT () rfl (su4 rfl rfl rfl rfl)
      ·refine G6 ?_
       obtain rfl:=os hs14
       exact lx rfl px (su1 rfl)
     ·rcases o26 with vo26_0 | vo26_1
      ·rintro e s' H' - ⟨rfl,hret⟩
       cases h
       exact hret
      ·rintro e s' H' - ⟨rfl,rfl,rfl⟩
       refine C2<|C6<|s0<|oB h fun x27 hx27 h=>A0 (B9 rfl) rfl<|A0 (B2 rfl rfl rfl) rfl<|A0 (J4 (rows:=List.map cI [a0.Purse]) rfl rfl (E4 (fun _=>rfl) _)) rfl<|B8 (rs:=[.b x27]) rfl rfl (A2 rfl (A2 rfl (A2 rfl B7))) ((F1 hx27).frz)<|qm rfl<|es (ra2 rfl rfl)<|wi h rfl (fun hc28 h=>?_) fun hc28 h=>?_
       ·refine s0<|qm rfl<|qm rfl<|qm rfl<|es (ra3 rfl rfl rfl)<|C5 ?_
        obtain rfl:=os h
        exact retq trivial (A6 rfl (A6 rfl (A6 rfl B6))) (A5 rfl (A5 rfl (A5 rfl B5))) (A3 A4 (A3 A4 (A3 A4 A8)))
       ·refine s0<|A0 (B9 rfl) rfl<|A0 (B2 rfl rfl rfl) rfl<|A0 (F6 (f:=D1) rfl) rfl<|A0 (Y8 rfl rfl) rfl<|qm rfl<|es (ra2 rfl rfl)<|wi h rfl (fun hc29 h=>?_) fun hc29 h=>?_
        ·refine s0<|qm rfl<|qm rfl<|qm rfl<|es (ra3 rfl rfl rfl)<|C5 ?_
         obtain rfl:=os h
         exact retq trivial (A6 rfl (A6 rfl (A6 rfl B6))) (A5 rfl (A5 rfl (A5 rfl B5))) (A3 A4 (A3 A4 (A3 A4 A8)))
        ·refine C3<|C2<|s0<|A0 (B9 rfl) rfl<|A0 (B2 rfl rfl rfl) rfl<|A0 (F6 (f:=D1) rfl) rfl<|qm rfl<|es (ra3 rfl rfl rfl)<|C6<|oB h fun o39 ho39 h=>wl (fun s30=>[(92,(.seq 2 (List.map D1 a0.Incomes))),(93,(.i (List.length a0.Incomes:Int))),(94,.i s30)]) (fun (q31:Unit) s30=>[(.cells (B1 a0))]) 1 (fun r e s' H'=>(match r with | (.inl v)=>e = .ret∧RetQ H [.tmp 2,.tmp 3,.tmp 4] [.i v.1,.i v.2.1,.i v.2.2] e s' H' | (.inr v)=>PX 6 [] (H++[(.cells (B1 a0))]) e s' H':Prop)) () ho39 rfl rfl (fun _ _=>rfl) (fun _=>rfl) rfl (fun s30=>(bdc K0 (bdc A4 (bdc A4 bdn)))) (fun q31 s30 ys30 hs30=>?_) ?_
         ·unfold A1f at hs30
          refine s0<|A0 (I0 rfl rfl) rfl<|es (ra4 rfl rfl rfl rfl)<|C2<|wi hs30 rfl (fun hc32 hs30=>?_) fun hc32 hs30=>?_
          ·refine C3<|C2<|C6<|sg 1 rfl<|oB hs30 fun x33 hx33 hs30=>qm rfl<|A0 (E9 (f:=D1) rfl rfl hx33) rfl<|A0 (F5 rfl rfl) rfl<|A0 I3 rfl<|qm rfl<|N9 (E8 (ds:=(D1 x33)) rfl rfl rfl rfl (E2 rfl) rfl) rfl<|es (ra5 rfl rfl rfl rfl rfl)<|s0<|oB hs30 fun x34 hx34 hs30=>oB hs30 fun x37 hx37 hs30=>A0 (B9 rfl) rfl<|A0 (B2 rfl rfl rfl) rfl<|A0 (J4 (rows:=List.map cI [x33.Day]) rfl rfl (E4 (fun _=>rfl) _)) rfl<|B8 (rs:=[.b x34]) rfl rfl (A2 rfl (A2 rfl (A2 rfl B7))) ((F1 hx34).frz)<|qm rfl<|gp 5 108 (.b x37) 103 rfl rfl (fun hg35=>?_) (fun hg35=>?_) ?_
           ·obtain rfl:=os (bt hx37 hg35)
            exact nF rfl hg35 rfl<|nF rfl hg35 rfl<|nF rfl hg35 rfl<|H6 (E0 rfl (by rw [hg35]; rfl)) rfl<|A0 (C8 rfl hg35 rfl) rfl<|ge 5 rfl rfl rfl
           ·refine oB (bf hx37 hg35) fun x36 hx36 hx37=>?_
            obtain rfl:=os hx37
            exact gF rfl hg35<|A0 (B9 rfl) rfl<|gF rfl hg35<|A0 (B2 rfl rfl rfl) rfl<|gF rfl hg35<|A0 (J4 (rows:=List.map cI [x33.Pence]) rfl rfl (E4 (fun _=>rfl) _)) rfl<|gF rfl hg35<|B8 (rs:=[.b x36]) rfl rfl (A2 rfl (A2 rfl (A2 rfl B7))) ((F1 hx36).frz)<|A0 (C7 rfl hg35 rfl) rfl<|ge 5 rfl rfl rfl
           refine es (ra5 rfl rfl rfl rfl rfl)<|wi hs30 rfl (fun hc38 hs30=>?_) fun hc38 hs30=>?_
           ·refine s0<|qm rfl<|qm rfl<|qm rfl<|qm rfl<|es (ra3 rfl rfl rfl)<|C5 ?_
            obtain rfl:=os hs30
            exact lx rfl (And.intro rfl (retq trivial (A6 rfl (A6 rfl (A6 rfl B6))) (A5 rfl (A5 rfl (A5 rfl B5))) (A3 A4 (A3 A4 (A3 A4 A8))))) (Sub.refl _)
           ·refine C3<|r0<|A0 (F2 rfl rfl) rfl<|qm rfl<|en (ra3 rfl rfl rfl) ?_
            cases hs30
            exact lnT () rfl (su3 rfl rfl rfl)
          ·refine G6 ?_
           obtain rfl:=os hs30
           exact lx rfl px (.nil _)
         ·rcases o39 with vo39_0 | vo39_1
          ·rintro e s' H' - ⟨rfl,hret⟩
           cases h
           exact hret
          ·rintro e s' H' - ⟨rfl,rfl,rfl⟩
           refine s0<|qm rfl<|qm rfl<|qm rfl<|es (ra3 rfl rfl rfl)<|C5 ?_
           obtain rfl:=os h
           exact retq trivial (A6 rfl (A6 rfl (A6 rfl B6))) (A5 rfl (A5 rfl (A5 rfl B5))) (A3 A4 (A3 A4 (A3 A4 A8)))
end Pw
end
