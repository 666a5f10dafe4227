/- Texts that the claim stands on, one behind another. -/
import Derived.Test.YtjpjdglddmhplaaA4
import Derived.Test.YtjpjdglddmhplaaChecked
import Derived.KernelRfl
set_option linter.unusedVariables false
set_option linter.unusedSimpArgs false
set_option linter.unnecessarySimpa false
section
set_option maxRecDepth 100000
set_option maxHeartbeats 0
namespace Go.Proofs.Ytjpjdglddmhplaa
open Go Am Go.Proofs
theorem m3:B4 Try.prog Try.f3 Cd.a3 = true:= by kernel_rfl
theorem m7:B4 Try.prog Try.f7 Cd.a7 = true:= by kernel_rfl
theorem m8:B4 Try.prog Try.f8 Cd.a8 = true:= by kernel_rfl
theorem m9:B4 Try.prog Try.f9 Cd.a9 = true:= by kernel_rfl
theorem m10:B4 Try.prog Try.f10 Cd.a10 = true:= by kernel_rfl
theorem m11:B4 Try.prog Try.f11 Cd.a11 = true:= by kernel_rfl
theorem m12:B4 Try.prog Try.f12 Cd.a12 = true:= by kernel_rfl
theorem m13:B4 Try.prog Try.f13 Cd.a13 = true:= by kernel_rfl
theorem m14:B4 Try.prog Try.f14 Cd.a14 = true:= by kernel_rfl
theorem m15:B4 Try.prog Try.f15 Cd.a15 = true:= by kernel_rfl
theorem m16:B4 Try.prog Try.f16 Cd.a16 = true:= by kernel_rfl
theorem m17:B4 Try.prog Try.f17 Cd.a17 = true:= by kernel_rfl
theorem m21:B4 Try.prog Try.f21 Cd.a21 = true:= by kernel_rfl
theorem m22:B4 Try.prog Try.f22 Cd.a22 = true:= by kernel_rfl
theorem m23:B4 Try.prog Try.f23 Cd.a23 = true:= by kernel_rfl
theorem m24:B4 Try.prog Try.f24 Cd.a24 = true:= by kernel_rfl
theorem m25:B4 Try.prog Try.f25 Cd.a25 = true:= by kernel_rfl
theorem m26:B4 Try.prog Try.f26 Cd.a26 = true:= by kernel_rfl
theorem m27:B4 Try.prog Try.f27 Cd.a27 = true:= by kernel_rfl
theorem m28:B4 Try.prog Try.f28 Cd.a28 = true:= by kernel_rfl
theorem m29:B4 Try.prog Try.f29 Cd.a29 = true:= by kernel_rfl
theorem m30:B4 Try.prog Try.f30 Cd.a30 = true:= by kernel_rfl
theorem m31:B4 Try.prog Try.f31 Cd.a31 = true:= by kernel_rfl
theorem m32:B4 Try.prog Try.f32 Cd.a32 = true:= by kernel_rfl
theorem m33:B4 Try.prog Try.f33 Cd.a33 = true:= by kernel_rfl
theorem m34:B4 Try.prog Try.f34 Cd.a34 = true:= by kernel_rfl
theorem m35:B4 Try.prog Try.f35 Cd.a35 = true:= by kernel_rfl
theorem m37:B4 Try.prog Try.f37 Cd.a37 = true:= by kernel_rfl
theorem m38:B4 Try.prog Try.f38 Cd.a38 = true:= by kernel_rfl
theorem m39:B4 Try.prog Try.f39 Cd.a39 = true:= by kernel_rfl
theorem m40:B4 Try.prog Try.f40 Cd.a40 = true:= by kernel_rfl
theorem m41:B4 Try.prog Try.f41 Cd.a41 = true:= by kernel_rfl
theorem m42:B4 Try.prog Try.f42 Cd.a42 = true:= by kernel_rfl
theorem m43:B4 Try.prog Try.f43 Cd.a43 = true:= by kernel_rfl
theorem m44:B4 Try.prog Try.f44 Cd.a44 = true:= by kernel_rfl
theorem m45:B4 Try.prog Try.f45 Cd.a45 = true:= by kernel_rfl
theorem m46:B4 Try.prog Try.f46 Cd.a46 = true:= by kernel_rfl
theorem m47:B4 Try.prog Try.f47 Cd.a47 = true:= by kernel_rfl
theorem m48:B4 Try.prog Try.f48 Cd.a48 = true:= by kernel_rfl
theorem m49:B4 Try.prog Try.f49 Cd.a49 = true:= by kernel_rfl
theorem m50:B4 Try.prog Try.f50 Cd.a50 = true:= by kernel_rfl
theorem m51:B4 Try.prog Try.f51 Cd.a51 = true:= by kernel_rfl
theorem m52:B4 Try.prog Try.f52 Cd.a52 = true:= by kernel_rfl
theorem m53:B4 Try.prog Try.f53 Cd.a53 = true:= by kernel_rfl
theorem m54:B4 Try.prog Try.f54 Cd.a54 = true:= by kernel_rfl
theorem m55:B4 Try.prog Try.f55 Cd.a55 = true:= by kernel_rfl
theorem m56:B4 Try.prog Try.f56 Cd.a56 = true:= by kernel_rfl
theorem m57:B4 Try.prog Try.f57 Cd.a57 = true:= by kernel_rfl
theorem m62:B4 Try.prog Try.f62 Cd.a62 = true:= by kernel_rfl
theorem m63:B4 Try.prog Try.f63 Cd.a63 = true:= by kernel_rfl
theorem m64:B4 Try.prog Try.f64 Cd.a64 = true:= by kernel_rfl
theorem m65:B4 Try.prog Try.f65 Cd.a65 = true:= by kernel_rfl
theorem m66:B4 Try.prog Try.f66 Cd.a66 = true:= by kernel_rfl
theorem m67:B4 Try.prog Try.f67 Cd.a67 = true:= by kernel_rfl
theorem m68:B4 Try.prog Try.f68 Cd.a68 = true:= by kernel_rfl
theorem m69:B4 Try.prog Try.f69 Cd.a69 = true:= by kernel_rfl
theorem m70:B4 Try.prog Try.f70 Cd.a70 = true:= by kernel_rfl
theorem m71:B4 Try.prog Try.f71 Cd.a71 = true:= by kernel_rfl
theorem m72:B4 Try.prog Try.f72 Cd.a72 = true:= by kernel_rfl
theorem m73:B4 Try.prog Try.f73 Cd.a73 = true:= by kernel_rfl
theorem m74:B4 Try.prog Try.f74 Cd.a74 = true:= by kernel_rfl
theorem m77:B4 Try.prog Try.f77 Cd.a77 = true:= by kernel_rfl
theorem m78:B4 Try.prog Try.f78 Cd.a78 = true:= by kernel_rfl
theorem m79:B4 Try.prog Try.f79 Cd.a79 = true:= by kernel_rfl
theorem m80:B4 Try.prog Try.f80 Cd.a80 = true:= by kernel_rfl
theorem m81:B4 Try.prog Try.f81 Cd.a81 = true:= by kernel_rfl
theorem m82:B4 Try.prog Try.f82 Cd.a82 = true:= by kernel_rfl
theorem m83:B4 Try.prog Try.f83 Cd.a83 = true:= by kernel_rfl
theorem m84:B4 Try.prog Try.f84 Cd.a84 = true:= by kernel_rfl
theorem m85:B4 Try.prog Try.f85 Cd.a85 = true:= by kernel_rfl
theorem m86:B4 Try.prog Try.f86 Cd.a86 = true:= by kernel_rfl
theorem m87:B4 Try.prog Try.f87 Cd.a87 = true:= by kernel_rfl
theorem m88:B4 Try.prog Try.f88 Cd.a88 = true:= by kernel_rfl
theorem m90:B4 Try.prog Try.f90 Cd.a90 = true:= by kernel_rfl
theorem m91:B4 Try.prog Try.f91 Cd.a91 = true:= by kernel_rfl
theorem m92:B4 Try.prog Try.f92 Cd.a92 = true:= by kernel_rfl
theorem m93:B4 Try.prog Try.f93 Cd.a93 = true:= by kernel_rfl
theorem m94:B4 Try.prog Try.f94 Cd.a94 = true:= by kernel_rfl
theorem m95:B4 Try.prog Try.f95 Cd.a95 = true:= by kernel_rfl
theorem m97:B4 Try.prog Try.f97 Cd.a97 = true:= by kernel_rfl
theorem m98:B4 Try.prog Try.f98 Cd.a98 = true:= by kernel_rfl
theorem m99:B4 Try.prog Try.f99 Cd.a99 = true:= by kernel_rfl
theorem m100:B4 Try.prog Try.f100 Cd.a100 = true:= by kernel_rfl
theorem m101:B4 Try.prog Try.f101 Cd.a101 = true:= by kernel_rfl
theorem m102:B4 Try.prog Try.f102 Cd.a102 = true:= by kernel_rfl
theorem m103:B4 Try.prog Try.f103 Cd.a103 = true:= by kernel_rfl
theorem m104:B4 Try.prog Try.f104 Cd.a104 = true:= by kernel_rfl
theorem m105:B4 Try.prog Try.f105 Cd.a105 = true:= by kernel_rfl
theorem D0t:B4f Try.prog Cd.tab:= by
 intro i af h
 unfold Cd.tab at h
 split at h
 ·cases h; exact ⟨Try.f3,Try.func3,m3⟩
 ·cases h; exact ⟨Try.f7,Try.func7,m7⟩
 ·cases h; exact ⟨Try.f8,Try.func8,m8⟩
 ·cases h; exact ⟨Try.f9,Try.func9,m9⟩
 ·cases h; exact ⟨Try.f10,Try.func10,m10⟩
 ·cases h; exact ⟨Try.f11,Try.func11,m11⟩
 ·cases h; exact ⟨Try.f12,Try.func12,m12⟩
 ·cases h; exact ⟨Try.f13,Try.func13,m13⟩
 ·cases h; exact ⟨Try.f14,Try.func14,m14⟩
 ·cases h; exact ⟨Try.f15,Try.func15,m15⟩
 ·cases h; exact ⟨Try.f16,Try.func16,m16⟩
 ·cases h; exact ⟨Try.f17,Try.func17,m17⟩
 ·cases h; exact ⟨Try.f21,Try.func21,m21⟩
 ·cases h; exact ⟨Try.f22,Try.func22,m22⟩
 ·cases h; exact ⟨Try.f23,Try.func23,m23⟩
 ·cases h; exact ⟨Try.f24,Try.func24,m24⟩
 ·cases h; exact ⟨Try.f25,Try.func25,m25⟩
 ·cases h; exact ⟨Try.f26,Try.func26,m26⟩
 ·cases h; exact ⟨Try.f27,Try.func27,m27⟩
 ·cases h; exact ⟨Try.f28,Try.func28,m28⟩
 ·cases h; exact ⟨Try.f29,Try.func29,m29⟩
 ·cases h; exact ⟨Try.f30,Try.func30,m30⟩
 ·cases h; exact ⟨Try.f31,Try.func31,m31⟩
 ·cases h; exact ⟨Try.f32,Try.func32,m32⟩
 ·cases h; exact ⟨Try.f33,Try.func33,m33⟩
 ·cases h; exact ⟨Try.f34,Try.func34,m34⟩
 ·cases h; exact ⟨Try.f35,Try.func35,m35⟩
 ·cases h; exact ⟨Try.f37,Try.func37,m37⟩
 ·cases h; exact ⟨Try.f38,Try.func38,m38⟩
 ·cases h; exact ⟨Try.f39,Try.func39,m39⟩
 ·cases h; exact ⟨Try.f40,Try.func40,m40⟩
 ·cases h; exact ⟨Try.f41,Try.func41,m41⟩
 ·cases h; exact ⟨Try.f42,Try.func42,m42⟩
 ·cases h; exact ⟨Try.f43,Try.func43,m43⟩
 ·cases h; exact ⟨Try.f44,Try.func44,m44⟩
 ·cases h; exact ⟨Try.f45,Try.func45,m45⟩
 ·cases h; exact ⟨Try.f46,Try.func46,m46⟩
 ·cases h; exact ⟨Try.f47,Try.func47,m47⟩
 ·cases h; exact ⟨Try.f48,Try.func48,m48⟩
 ·cases h; exact ⟨Try.f49,Try.func49,m49⟩
 ·cases h; exact ⟨Try.f50,Try.func50,m50⟩
 ·cases h; exact ⟨Try.f51,Try.func51,m51⟩
 ·cases h; exact ⟨Try.f52,Try.func52,m52⟩
 ·cases h; exact ⟨Try.f53,Try.func53,m53⟩
 ·cases h; exact ⟨Try.f54,Try.func54,m54⟩
 ·cases h; exact ⟨Try.f55,Try.func55,m55⟩
 ·cases h; exact ⟨Try.f56,Try.func56,m56⟩
 ·cases h; exact ⟨Try.f57,Try.func57,m57⟩
 ·cases h; exact ⟨Try.f62,Try.func62,m62⟩
 ·cases h; exact ⟨Try.f63,Try.func63,m63⟩
 ·cases h; exact ⟨Try.f64,Try.func64,m64⟩
 ·cases h; exact ⟨Try.f65,Try.func65,m65⟩
 ·cases h; exact ⟨Try.f66,Try.func66,m66⟩
 ·cases h; exact ⟨Try.f67,Try.func67,m67⟩
 ·cases h; exact ⟨Try.f68,Try.func68,m68⟩
 ·cases h; exact ⟨Try.f69,Try.func69,m69⟩
 ·cases h; exact ⟨Try.f70,Try.func70,m70⟩
 ·cases h; exact ⟨Try.f71,Try.func71,m71⟩
 ·cases h; exact ⟨Try.f72,Try.func72,m72⟩
 ·cases h; exact ⟨Try.f73,Try.func73,m73⟩
 ·cases h; exact ⟨Try.f74,Try.func74,m74⟩
 ·cases h; exact ⟨Try.f77,Try.func77,m77⟩
 ·cases h; exact ⟨Try.f78,Try.func78,m78⟩
 ·cases h; exact ⟨Try.f79,Try.func79,m79⟩
 ·cases h; exact ⟨Try.f80,Try.func80,m80⟩
 ·cases h; exact ⟨Try.f81,Try.func81,m81⟩
 ·cases h; exact ⟨Try.f82,Try.func82,m82⟩
 ·cases h; exact ⟨Try.f83,Try.func83,m83⟩
 ·cases h; exact ⟨Try.f84,Try.func84,m84⟩
 ·cases h; exact ⟨Try.f85,Try.func85,m85⟩
 ·cases h; exact ⟨Try.f86,Try.func86,m86⟩
 ·cases h; exact ⟨Try.f87,Try.func87,m87⟩
 ·cases h; exact ⟨Try.f88,Try.func88,m88⟩
 ·cases h; exact ⟨Try.f90,Try.func90,m90⟩
 ·cases h; exact ⟨Try.f91,Try.func91,m91⟩
 ·cases h; exact ⟨Try.f92,Try.func92,m92⟩
 ·cases h; exact ⟨Try.f93,Try.func93,m93⟩
 ·cases h; exact ⟨Try.f94,Try.func94,m94⟩
 ·cases h; exact ⟨Try.f95,Try.func95,m95⟩
 ·cases h; exact ⟨Try.f97,Try.func97,m97⟩
 ·cases h; exact ⟨Try.f98,Try.func98,m98⟩
 ·cases h; exact ⟨Try.f99,Try.func99,m99⟩
 ·cases h; exact ⟨Try.f100,Try.func100,m100⟩
 ·cases h; exact ⟨Try.f101,Try.func101,m101⟩
 ·cases h; exact ⟨Try.f102,Try.func102,m102⟩
 ·cases h; exact ⟨Try.f103,Try.func103,m103⟩
 ·cases h; exact ⟨Try.f104,Try.func104,m104⟩
 ·cases h; exact ⟨Try.f105,Try.func105,m105⟩
 ·cases h
end Go.Proofs.Ytjpjdglddmhplaa
end
section
set_option maxRecDepth 100000
set_option maxHeartbeats 0
namespace Pw
open Go Am Go.Proofs.Ytjpjdglddmhplaa.Cd
structure PaGown where
 mk ::
 (Name:ByteArray)
 (Looks:Int)
 (Pawn:Bool)
 (Loan:Int)
 (Rate:Int)
 (Fee:Int)
 (Ago:Int)
 (Last:Int)
 deriving DecidableEq
def C1 (x:PaGown):List AV:=[.s x.Name,.i x.Looks,.b x.Pawn,.i x.Loan,.i x.Rate,.i x.Fee,.i x.Ago,.i x.Last]
structure PaFigure where
 mk ::
 (Name:ByteArray)
 (Day:Int)
 (Until:Int)
 (Needs:Int)
 deriving DecidableEq
def B3 (x:PaFigure):List AV:=[.s x.Name,.i x.Day,.i x.Until,.i x.Needs]
structure PaIncome where
 mk ::
 (Day:Int)
 (Pence:Int)
 deriving DecidableEq
def D7 (x:PaIncome):List AV:=[.i x.Day,.i x.Pence]
structure PaShow where
 mk ::
 (Gowns:(List PaGown))
 (Figures:(List PaFigure))
 (Purse:Int)
 (Incomes:(List PaIncome))
 deriving DecidableEq
def B6 (x:PaShow):List AV:=[(.seq 8 (List.map C1 x.Gowns)),(.seq 4 (List.map B3 x.Figures)),.i x.Purse,(.seq 2 (List.map D7 x.Incomes))]
structure PaUse where
 mk ::
 (Gown:Int)
 (How:Int)
 (Day:Int)
 deriving DecidableEq
def A8 (x:PaUse):List AV:=[.i x.Gown,.i x.How,.i x.Day]
structure pawn_way where
 mk ::
 deriving DecidableEq
structure pawn_show where
 mk ::
 (PaShow:PaShow)
 (ways_:(Ar3 pawn_way))
 (days_:(List Int))
 deriving DecidableEq
structure pawn_found where
 mk ::
 (plan_:(List PaUse))
 (without_:Int)
 (cost_:Int)
 (short_:Int)
 (had_:(Ar3 Int))
 deriving DecidableEq
def B2 (x:pawn_found):List AV:=[(.seq 3 (List.map A8 x.plan_)),.i x.without_,.i x.cost_,.i x.short_,.i x.had_.x0,.i x.had_.x1,.i x.had_.x2]
structure law04_Richer where
 mk ::
 (Purse:Int)
 (Rate:Int)
 (Fee:Int)
 (Last:Int)
 (Income:PaIncome)
 (Gown:PaGown)
 deriving DecidableEq
def R9 (a0:Int) (a1:Int) (a2:Int):Option PaUse :=
 some (PaUse.mk a0 a1 a2)
theorem O2 {c:Sc} {H:A1} {a0:Int} {a1:Int} {a2:Int} {r:PaUse} (h:R9 a0 a1 a2 = some r) :
  F2 tab c H (.fn (.func 16) [] []) [.i a0,.i a1,.i a2] [(.agg (A8 r))]:= by
 unfold R9 at h
 refine cE rfl rfl<|sg 0 rfl<|A0 G8 rfl<|es (ra4 rfl rfl rfl rfl)<|s0<|qm rfl<|qm rfl<|qm rfl<|A0 (O1 (cs:=A8 (PaUse.mk a0 a1 a2)) rfl rfl) rfl<|M4 (E4 (ds:=(A8 (PaUse.mk a0 a1 a2))) rfl rfl rfl rfl (D9 rfl) rfl) rfl<|es (ra1 rfl)<|C7 ?_
 obtain rfl:=os h
 exact retq trivial (A54 (A00 (ds:=A8 (PaUse.mk a0 a1 a2)) rfl rfl rfl rfl) C0) (A5 (A9s rfl) B9) (A3 (A81 rfl) B1)
def W2 :Option (List PaUse) :=
 (R9 0 1 0).bind fun x1 =>
 (R9 1 0 0).bind fun x2 =>
 (R9 2 2 0).bind fun x3 =>
 some [x1,x2,x3]
theorem U5 {c:Sc} {H:A1}  {r:(List PaUse)} (h:W2  = some r) :
  F2 tab c H (.fn (.func 12) [] []) [] [(.seq 3 (List.map A8 r))]:= by
 unfold W2 at h
 refine cE rfl rfl<|s0<|qm rfl<|es .n<|s0<|oB h fun x1 hx1 h=>oB h fun x2 hx2 h=>oB h fun x3 hx3 h=>B8 (rs:=[(.agg (A8 x1))]) rfl rfl (A2 rfl (A2 rfl (A2 rfl B5))) ((O2 hx1).frz)<|B8 (rs:=[(.agg (A8 x2))]) rfl rfl (A2 rfl (A2 rfl (A2 rfl B5))) ((O2 hx2).frz)<|B8 (rs:=[(.agg (A8 x3))]) rfl rfl (A2 rfl (A2 rfl (A2 rfl B5))) ((O2 hx3).frz)<|A0 (I1 (rows:=List.map A8 [x1,x2,x3]) rfl rfl (E0 (fun _=>rfl) _)) rfl<|qm rfl<|es (ra1 rfl)<|C7 ?_
 obtain rfl:=os h
 exact retq trivial (A9 rfl C0) (A5 rfl B9) (A3 M0 B1)
def A0p (a0:Bool):Option PaShow :=
 if a0 = true then
  some (PaShow.mk ((PaShow.mk [(PaGown.mk (ByteArray.mk #[114,101,100]) 3 true 90 10 3 20 100),(PaGown.mk (ByteArray.mk #[98,108,117,101]) 1 false 0 0 0 0 0),(PaGown.mk (ByteArray.mk #[103,111,108,100]) 7 true 120 5 8 0 60)] [(PaFigure.mk (ByteArray.mk #[113,117,101,101,110]) 50 59 2),(PaFigure.mk (ByteArray.mk #[98,105,115,104,111,112]) 20 80 1),(PaFigure.mk (ByteArray.mk #[108,97,100,121]) 45 50 4)] 100 [(PaIncome.mk 40 150)]).Gowns) ((PaShow.mk [(PaGown.mk (ByteArray.mk #[114,101,100]) 3 true 90 10 3 20 100),(PaGown.mk (ByteArray.mk #[98,108,117,101]) 1 false 0 0 0 0 0),(PaGown.mk (ByteArray.mk #[103,111,108,100]) 7 true 120 5 8 0 60)] [(PaFigure.mk (ByteArray.mk #[113,117,101,101,110]) 50 59 2),(PaFigure.mk (ByteArray.mk #[98,105,115,104,111,112]) 20 80 1),(PaFigure.mk (ByteArray.mk #[108,97,100,121]) 45 50 4)] 100 [(PaIncome.mk 40 150)]).Figures) 20 ([]:List PaIncome))
 else
  some (PaShow.mk [(PaGown.mk (ByteArray.mk #[114,101,100]) 3 true 90 10 3 20 100),(PaGown.mk (ByteArray.mk #[98,108,117,101]) 1 false 0 0 0 0 0),(PaGown.mk (ByteArray.mk #[103,111,108,100]) 7 true 120 5 8 0 60)] [(PaFigure.mk (ByteArray.mk #[113,117,101,101,110]) 50 59 2),(PaFigure.mk (ByteArray.mk #[98,105,115,104,111,112]) 20 80 1),(PaFigure.mk (ByteArray.mk #[108,97,100,121]) 45 50 4)] 100 [(PaIncome.mk 40 150)])
theorem A01 {c:Sc} {H:A1} {a0:Bool} {r:PaShow} (h:A0p a0 = some r) :
  F2 tab c H (.fn (.func 7) [] []) [.b a0] [(.agg (B6 r))]:= by
 unfold A0p at h
 refine cE rfl rfl<|sg 0 rfl<|A0 G8 rfl<|es (ra2 rfl rfl)<|sg 1 rfl<|A0 (O1 (cs:=C1 (PaGown.mk (ByteArray.mk #[114,101,100]) 3 true 90 10 3 20 100)) rfl rfl) rfl<|A0 (O1 (cs:=C1 (PaGown.mk (ByteArray.mk #[98,108,117,101]) 1 false 0 0 0 0 0)) rfl rfl) rfl<|A0 (O1 (cs:=C1 (PaGown.mk (ByteArray.mk #[103,111,108,100]) 7 true 120 5 8 0 60)) rfl rfl) rfl<|A0 (I1 (rows:=List.map C1 [(PaGown.mk (ByteArray.mk #[114,101,100]) 3 true 90 10 3 20 100),(PaGown.mk (ByteArray.mk #[98,108,117,101]) 1 false 0 0 0 0 0),(PaGown.mk (ByteArray.mk #[103,111,108,100]) 7 true 120 5 8 0 60)]) rfl rfl (E0 (fun _=>rfl) _)) rfl<|A0 (O1 (cs:=B3 (PaFigure.mk (ByteArray.mk #[113,117,101,101,110]) 50 59 2)) rfl rfl) rfl<|A0 (O1 (cs:=B3 (PaFigure.mk (ByteArray.mk #[98,105,115,104,111,112]) 20 80 1)) rfl rfl) rfl<|A0 (O1 (cs:=B3 (PaFigure.mk (ByteArray.mk #[108,97,100,121]) 45 50 4)) rfl rfl) rfl<|A0 (I1 (rows:=List.map B3 [(PaFigure.mk (ByteArray.mk #[113,117,101,101,110]) 50 59 2),(PaFigure.mk (ByteArray.mk #[98,105,115,104,111,112]) 20 80 1),(PaFigure.mk (ByteArray.mk #[108,97,100,121]) 45 50 4)]) rfl rfl (E0 (fun _=>rfl) _)) rfl<|A0 (O1 (cs:=D7 (PaIncome.mk 40 150)) rfl rfl) rfl<|A0 (I1 (rows:=List.map D7 [(PaIncome.mk 40 150)]) rfl rfl (E0 (fun _=>rfl) _)) rfl<|A0 (O1 (cs:=B6 (PaShow.mk [(PaGown.mk (ByteArray.mk #[114,101,100]) 3 true 90 10 3 20 100),(PaGown.mk (ByteArray.mk #[98,108,117,101]) 1 false 0 0 0 0 0),(PaGown.mk (ByteArray.mk #[103,111,108,100]) 7 true 120 5 8 0 60)] [(PaFigure.mk (ByteArray.mk #[113,117,101,101,110]) 50 59 2),(PaFigure.mk (ByteArray.mk #[98,105,115,104,111,112]) 20 80 1),(PaFigure.mk (ByteArray.mk #[108,97,100,121]) 45 50 4)] 100 [(PaIncome.mk 40 150)])) rfl rfl) rfl<|A0 G8 rfl<|M4 (E4 (ds:=(B6 (PaShow.mk [(PaGown.mk (ByteArray.mk #[114,101,100]) 3 true 90 10 3 20 100),(PaGown.mk (ByteArray.mk #[98,108,117,101]) 1 false 0 0 0 0 0),(PaGown.mk (ByteArray.mk #[103,111,108,100]) 7 true 120 5 8 0 60)] [(PaFigure.mk (ByteArray.mk #[113,117,101,101,110]) 50 59 2),(PaFigure.mk (ByteArray.mk #[98,105,115,104,111,112]) 20 80 1),(PaFigure.mk (ByteArray.mk #[108,97,100,121]) 45 50 4)] 100 [(PaIncome.mk 40 150)]))) rfl rfl rfl rfl (D9 rfl) rfl) rfl<|es (ra3 rfl rfl rfl)<|C6<|s0<|qm rfl<|es (ra3 rfl rfl rfl)<|wi h rfl (fun hc1 h=>?_) fun hc1 h=>?_
 ·refine r0<|A0 (C3 rfl) rfl<|M4 (E4 (ds:=(B6 (PaShow.mk ((PaShow.mk [(PaGown.mk (ByteArray.mk #[114,101,100]) 3 true 90 10 3 20 100),(PaGown.mk (ByteArray.mk #[98,108,117,101]) 1 false 0 0 0 0 0),(PaGown.mk (ByteArray.mk #[103,111,108,100]) 7 true 120 5 8 0 60)] [(PaFigure.mk (ByteArray.mk #[113,117,101,101,110]) 50 59 2),(PaFigure.mk (ByteArray.mk #[98,105,115,104,111,112]) 20 80 1),(PaFigure.mk (ByteArray.mk #[108,97,100,121]) 45 50 4)] 100 [(PaIncome.mk 40 150)]).Gowns) ((PaShow.mk [(PaGown.mk (ByteArray.mk #[114,101,100]) 3 true 90 10 3 20 100),(PaGown.mk (ByteArray.mk #[98,108,117,101]) 1 false 0 0 0 0 0),(PaGown.mk (ByteArray.mk #[103,111,108,100]) 7 true 120 5 8 0 60)] [(PaFigure.mk (ByteArray.mk #[113,117,101,101,110]) 50 59 2),(PaFigure.mk (ByteArray.mk #[98,105,115,104,111,112]) 20 80 1),(PaFigure.mk (ByteArray.mk #[108,97,100,121]) 45 50 4)] 100 [(PaIncome.mk 40 150)]).Figures) 20 ((PaShow.mk [(PaGown.mk (ByteArray.mk #[114,101,100]) 3 true 90 10 3 20 100),(PaGown.mk (ByteArray.mk #[98,108,117,101]) 1 false 0 0 0 0 0),(PaGown.mk (ByteArray.mk #[103,111,108,100]) 7 true 120 5 8 0 60)] [(PaFigure.mk (ByteArray.mk #[113,117,101,101,110]) 50 59 2),(PaFigure.mk (ByteArray.mk #[98,105,115,104,111,112]) 20 80 1),(PaFigure.mk (ByteArray.mk #[108,97,100,121]) 45 50 4)] 100 [(PaIncome.mk 40 150)]).Incomes)))) rfl rfl rfl rfl (D9 rfl) rfl) rfl<|A0 (C3 rfl) rfl<|M4 (E4 (ds:=(B6 (PaShow.mk ((PaShow.mk [(PaGown.mk (ByteArray.mk #[114,101,100]) 3 true 90 10 3 20 100),(PaGown.mk (ByteArray.mk #[98,108,117,101]) 1 false 0 0 0 0 0),(PaGown.mk (ByteArray.mk #[103,111,108,100]) 7 true 120 5 8 0 60)] [(PaFigure.mk (ByteArray.mk #[113,117,101,101,110]) 50 59 2),(PaFigure.mk (ByteArray.mk #[98,105,115,104,111,112]) 20 80 1),(PaFigure.mk (ByteArray.mk #[108,97,100,121]) 45 50 4)] 100 [(PaIncome.mk 40 150)]).Gowns) ((PaShow.mk [(PaGown.mk (ByteArray.mk #[114,101,100]) 3 true 90 10 3 20 100),(PaGown.mk (ByteArray.mk #[98,108,117,101]) 1 false 0 0 0 0 0),(PaGown.mk (ByteArray.mk #[103,111,108,100]) 7 true 120 5 8 0 60)] [(PaFigure.mk (ByteArray.mk #[113,117,101,101,110]) 50 59 2),(PaFigure.mk (ByteArray.mk #[98,105,115,104,111,112]) 20 80 1),(PaFigure.mk (ByteArray.mk #[108,97,100,121]) 45 50 4)] 100 [(PaIncome.mk 40 150)]).Figures) 20 ([]:List PaIncome)))) rfl rfl rfl rfl (D9 rfl) rfl) rfl<|en (ra2 rfl rfl)<|s0<|A0 (E5 rfl rfl rfl) rfl<|M4 (E4 (ds:=(B6 (PaShow.mk ((PaShow.mk [(PaGown.mk (ByteArray.mk #[114,101,100]) 3 true 90 10 3 20 100),(PaGown.mk (ByteArray.mk #[98,108,117,101]) 1 false 0 0 0 0 0),(PaGown.mk (ByteArray.mk #[103,111,108,100]) 7 true 120 5 8 0 60)] [(PaFigure.mk (ByteArray.mk #[113,117,101,101,110]) 50 59 2),(PaFigure.mk (ByteArray.mk #[98,105,115,104,111,112]) 20 80 1),(PaFigure.mk (ByteArray.mk #[108,97,100,121]) 45 50 4)] 100 [(PaIncome.mk 40 150)]).Gowns) ((PaShow.mk [(PaGown.mk (ByteArray.mk #[114,101,100]) 3 true 90 10 3 20 100),(PaGown.mk (ByteArray.mk #[98,108,117,101]) 1 false 0 0 0 0 0),(PaGown.mk (ByteArray.mk #[103,111,108,100]) 7 true 120 5 8 0 60)] [(PaFigure.mk (ByteArray.mk #[113,117,101,101,110]) 50 59 2),(PaFigure.mk (ByteArray.mk #[98,105,115,104,111,112]) 20 80 1),(PaFigure.mk (ByteArray.mk #[108,97,100,121]) 45 50 4)] 100 [(PaIncome.mk 40 150)]).Figures) 20 ([]:List PaIncome)))) rfl rfl rfl rfl (D9 rfl) rfl) rfl<|es (ra1 rfl)<|C7 ?_
  obtain rfl:=os h
  exact retq trivial (A54 (A00 (ds:=B6 (PaShow.mk ((PaShow.mk [(PaGown.mk (ByteArray.mk #[114,101,100]) 3 true 90 10 3 20 100),(PaGown.mk (ByteArray.mk #[98,108,117,101]) 1 false 0 0 0 0 0),(PaGown.mk (ByteArray.mk #[103,111,108,100]) 7 true 120 5 8 0 60)] [(PaFigure.mk (ByteArray.mk #[113,117,101,101,110]) 50 59 2),(PaFigure.mk (ByteArray.mk #[98,105,115,104,111,112]) 20 80 1),(PaFigure.mk (ByteArray.mk #[108,97,100,121]) 45 50 4)] 100 [(PaIncome.mk 40 150)]).Gowns) ((PaShow.mk [(PaGown.mk (ByteArray.mk #[114,101,100]) 3 true 90 10 3 20 100),(PaGown.mk (ByteArray.mk #[98,108,117,101]) 1 false 0 0 0 0 0),(PaGown.mk (ByteArray.mk #[103,111,108,100]) 7 true 120 5 8 0 60)] [(PaFigure.mk (ByteArray.mk #[113,117,101,101,110]) 50 59 2),(PaFigure.mk (ByteArray.mk #[98,105,115,104,111,112]) 20 80 1),(PaFigure.mk (ByteArray.mk #[108,97,100,121]) 45 50 4)] 100 [(PaIncome.mk 40 150)]).Figures) 20 ([]:List PaIncome))) rfl rfl rfl rfl) C0) (A5 (A9s rfl) B9) (A3 (A81 rfl) B1)
 ·refine C9<|s0<|A0 (E5 rfl rfl rfl) rfl<|M4 (E4 (ds:=(B6 (PaShow.mk [(PaGown.mk (ByteArray.mk #[114,101,100]) 3 true 90 10 3 20 100),(PaGown.mk (ByteArray.mk #[98,108,117,101]) 1 false 0 0 0 0 0),(PaGown.mk (ByteArray.mk #[103,111,108,100]) 7 true 120 5 8 0 60)] [(PaFigure.mk (ByteArray.mk #[113,117,101,101,110]) 50 59 2),(PaFigure.mk (ByteArray.mk #[98,105,115,104,111,112]) 20 80 1),(PaFigure.mk (ByteArray.mk #[108,97,100,121]) 45 50 4)] 100 [(PaIncome.mk 40 150)]))) rfl rfl rfl rfl (D9 rfl) rfl) rfl<|es (ra1 rfl)<|C7 ?_
  obtain rfl:=os h
  exact retq trivial (A54 (A00 (ds:=B6 (PaShow.mk [(PaGown.mk (ByteArray.mk #[114,101,100]) 3 true 90 10 3 20 100),(PaGown.mk (ByteArray.mk #[98,108,117,101]) 1 false 0 0 0 0 0),(PaGown.mk (ByteArray.mk #[103,111,108,100]) 7 true 120 5 8 0 60)] [(PaFigure.mk (ByteArray.mk #[113,117,101,101,110]) 50 59 2),(PaFigure.mk (ByteArray.mk #[98,105,115,104,111,112]) 20 80 1),(PaFigure.mk (ByteArray.mk #[108,97,100,121]) 45 50 4)] 100 [(PaIncome.mk 40 150)])) rfl rfl rfl rfl) C0) (A5 (A9s rfl) B9) (A3 (A81 rfl) B1)
def A6a (a0:(List Int)) (s1:Int):Option (Int ⊕ (Int ⊕ Unit)) :=
 if (decide (s1 < (List.length a0:Int))) = true then
  (idx a0 s1).bind fun x4 =>
  if (x4 != 0) = true then
  some (.inr (.inl x4))
  else
  some (.inl (w64 (s1 + 1)))
 else
  some (.inr (.inr ()))
def A3u (a0:(List Int)):Option Int :=
 (loop (A6a a0) 0).bind fun (o6:(Int ⊕ Unit)) =>
 match o6 with
 | (.inl vo6_0) =>
  some vo6_0
 | (.inr vo6_1) =>
  some 0
theorem A6g {c:Sc} {H:A1} {a0:(List Int)} {r:Int} (h:A3u a0 = some r) :
  F2 tab c H (.fn (.func 33) [] []) [(.seq 1 (List.map cI a0))] [.i r]:= by
 unfold A3u at h
 refine cE rfl rfl<|s0<|qm rfl<|es (ra1 rfl)<|s0<|qm rfl<|es (ra2 rfl rfl)<|C6<|s0<|qm rfl<|A0 (I6 (f:=cI) rfl) rfl<|qm rfl<|es (ra4 rfl rfl rfl rfl)<|C4<|oB h fun o6 ho6 h=>wl (fun s1=>[(3,.i 0),(6,(.seq 1 (List.map cI a0))),(7,(.i (List.length a0:Int))),(8,.i s1)]) (fun (q2:Unit) s1=>[]) 0 (fun r e s' H'=>(match r with | (.inl v)=>e = .ret∧RetQ H [.tmp 2] [.i v] e s' H' | (.inr v)=>PX 0 [(3,.i 0)] (H++[]) e s' H':Prop)) () ho6 rfl rfl (fun _ _=>rfl) (fun _=>rfl) rfl (fun s1=>(bdc A4 (bdc M0 (bdc A4 (bdc A4 bdn))))) (fun q2 s1 ys1 hs1=>?_) ?_
 ·unfold A6a at hs1
  refine s0<|A0 (L5 rfl rfl) rfl<|es (ra5 rfl rfl rfl rfl rfl)<|C6<|wi hs1 rfl (fun hc3 hs1=>?_) fun hc3 hs1=>?_
  ·refine C9<|C6<|C4<|s0<|oB hs1 fun x4 hx4 hs1=>A0 (J0 (f:=cI) rfl rfl hx4) rfl<|A0 (A1j rfl rfl) rfl<|qm rfl<|es (ra5 rfl rfl rfl rfl rfl)<|s0<|qm rfl<|qm rfl<|A0 (P6 rfl rfl) rfl<|es (ra6 rfl rfl rfl rfl rfl rfl)<|wi hs1 rfl (fun hc5 hs1=>?_) fun hc5 hs1=>?_
   ·refine s0<|qm rfl<|qm rfl<|es (ra1 rfl)<|C7 ?_
    obtain rfl:=os hs1
    exact lx rfl (And.intro rfl (retq trivial (A9 rfl C0) (A5 rfl B9) (A3 A4 B1))) (Sub.refl _)
   ·refine C9<|r0<|A0 (G6 rfl rfl) rfl<|qm rfl<|en (ra4 rfl rfl rfl rfl) ?_
    cases hs1
    exact lnT () rfl (su4 rfl rfl rfl rfl)
  ·refine K4 ?_
   obtain rfl:=os hs1
   exact lx rfl px (su1 rfl)
 ·rcases o6 with vo6_0 | vo6_1
  ·rintro e s' H' - ⟨rfl,hret⟩
   cases h
   exact hret
  ·rintro e s' H' - ⟨rfl,rfl,rfl⟩
   refine s0<|qm rfl<|qm rfl<|es (ra1 rfl)<|C7 ?_
   obtain rfl:=os h
   exact retq trivial (A9 rfl C0) (A5 rfl B9) (A3 A4 B1)
def A5c (a0:pawn_found) (a1:pawn_found):Option Int :=
 (A3u [(w64 (a0.without_ - a1.without_)),(w64 (a0.cost_ - a1.cost_))]).bind fun x1 =>
 some x1
theorem B21 {c:Sc} {H:A1} {a0:pawn_found} {a1:pawn_found} {r:Int} (h:A5c a0 a1 = some r) :
  F2 tab c H (.fn (.func 32) [] []) [(.agg (B2 a0)),(.agg (B2 a1))] [.i r]:= by
 unfold A5c at h
 refine cE rfl rfl<|sg 0 rfl<|A0 (F9 (cs:=B2 a0) rfl rfl rfl) rfl<|A0 (F9 (cs:=B2 a1) rfl rfl rfl) rfl<|qm rfl<|es (ra2 rfl rfl)<|s0<|oB h fun x1 hx1 h=>A0 (C3 rfl) rfl<|A0 (B7 rfl rfl rfl) rfl<|A0 (C3 rfl) rfl<|A0 (B7 rfl rfl rfl) rfl<|A0 (Z0 rfl rfl) rfl<|A0 (C3 rfl) rfl<|A0 (B7 rfl rfl rfl) rfl<|A0 (C3 rfl) rfl<|A0 (B7 rfl rfl rfl) rfl<|A0 (Z0 rfl rfl) rfl<|A0 (I1 (rows:=List.map cI [(w64 (a0.without_ - a1.without_)),(w64 (a0.cost_ - a1.cost_))]) rfl rfl (E0 (fun _=>rfl) _)) rfl<|B8 (rs:=[.i x1]) rfl rfl (A2 rfl B5) ((A6g hx1).frz)<|qm rfl<|es (ra1 rfl)<|C7 ?_
 obtain rfl:=os h
 exact retq trivial (A9 rfl C0) (A5 rfl B9) (A3 A4 B1)
end Pw
end
section
set_option maxRecDepth 100000
namespace Am
open Go
theorem C4n {c:Sc} {b a n:Nat} (h:a < b):c.okL b [.asl a n] = true:= by
 have key:∀B,(Nat.ble B b || Nat.blt a B) = true:=fun B=>by
  by_cases hB:B≤b
  ·rw [Nat.ble_eq_true_of_le hB]; rfl
  ·rw [show Nat.blt a B = true from Nat.ble_eq_true_of_le (by omega),Bool.or_true]
 have h2:(c.outer.all fun B=>Nat.ble B b || Nat.blt a B) = true:=List.all_eq_true.2 fun B _=>key B
 have h3:=key c.cur
 simp only [Sc.okL,Sc.ok,AV.plain,AV.bd,h2,h3,Bool.or_false,Bool.and_true,Bool.or_true]
theorem B68 {T:Tab} {c:Sc} {i:Nat} {af:AFunc} {first cap args aq rs:List AV} {H H':A1} (haf:T i = some af) (has:first++args++cap = aq) (hn:(Nat.beq aq.length af.nargs && Nat.blt af.nargs 1000) = true)
  (h:WP T af.body (I0 0 aq) H ⟨H.length,c.cur :: c.outer⟩ (fun e s H1=>(match e with | .exit _=>False | _=>True)∧∃ rs0,results s H1 af.results = some rs0∧M8 H.length H1 rs0 = some (rs,H')∧bdL H.length rs = false)):H6 T c H (.fn (.func i) first cap) args rs H':= by
 obtain ⟨e,S',s',H2,h1,h2,h3,rs0,h4,h5,h6⟩:=h _ (Sub.refl _)
 refine H6.fn (af:=af) (bd:=af.body) (aq:=aq) (rs0:=rs0) (rs1:=rs) (H1:=H') (e:=e) (st':=⟨S',H2,⟨H.length,c.cur :: c.outer⟩⟩) rfl haf rfl has.symm hn rfl h1 (by cases e <;> first | rfl | exact h3.elim) (O3 h2 h4) h5 rfl ?_
 unfold trunc
 rw [h6]; rfl
end Am
namespace Am
open Go
def New (T:Tab) (f:AV) (aq:List AV) (i:Nat) (L:List AO):Prop:=∀ (c:Sc) (H:A1) (N:Nat),H.length = N→H6 T c H f aq [.ptr (N + i) 0,.i 0] (H++L)
theorem A02 {T:Tab} {s:A6} {H0:A1} {l l1:List AO} {c:Sc} {n0 k i:Nat} {f:Opd} {args:List Opd} {fv:AV} {as0 aq:List AV} {L:List AO} (hn:New T fv aq i L) (hf:ev s f = some fv) (ha:evs s args = some as0) (hz:M7 (H0++l) as0 = some (aq,H0++l1)) (hk:l1.length = k) :
  One T c n0 s (H0++l) (.call f args [] false) (.tup [.ptr (H0.length + (k + i)) 0,.i 0]) (H0++(l1++L)):= by
 have:=hn c (H0++l1) (H0.length + k) (by rw [List.length_append,hk])
 rw [List.append_assoc,Nat.add_assoc] at this
 exact N4 hf ha hz this rfl
def inR (n:Nat) (i:Int):Option Unit:=if 0≤i∧i < n then some () else none
theorem B58 {n:Nat} {i:Int} {u:Unit} (h:inR n i = some u):0≤i∧i < n:= by
 unfold inR at h; split at h
 ·assumption
 ·cases h
def isel (i:Int) (a b c:Nat):Nat:=if i = 0 then a else if i = 1 then b else c
def sel3 {α:Type} (i:Int) (a b c:Option α):Option α:=if i = 0 then a else if i = 1 then b else c
theorem B3l {α:Type} {T:Tab} {c:Sc} {H:A1} {i:Int} {n0 n1 n2:Nat} {aq:List AV} {rs:α→List AV} {a b d:Option α} {x:α} (h0:∀{x},a = some x→T8 T c H (.fn (.func n0) [] []) aq (rs x)) (h1:∀{x},b = some x→T8 T c H (.fn (.func n1) [] []) aq (rs x)) (h2:∀{x},d = some x→T8 T c H (.fn (.func n2) [] []) aq (rs x)) (h:sel3 i a b d = some x) :
  T8 T c H (.fn (.func (isel i n0 n1 n2)) [] []) aq (rs x):= by
 unfold sel3 at h
 unfold isel
 split at h
 ·next e=>rw [if_pos e]; exact h0 h
 ·next e =>
  rw [if_neg e]
  split at h
  ·next e=>rw [if_pos e]; exact h1 h
  ·next e=>rw [if_neg e]; exact h2 h
end Am
namespace Am
open Go
theorem B9k {H:A1} {b:Nat} {cs:List AV} (h:hcells H b = some cs):hstk H b = none:= by
 unfold hcells at h
 unfold hstk
 split at h <;> first | (rename_i e; rw [e]) | cases h
end Am
namespace Pw
open Go Am Go.Proofs.Ytjpjdglddmhplaa.Cd
def A2g (t:PaShow) (d:AV):List AV:=[.seq 8 (List.map C1 t.Gowns),.seq 4 (List.map B3 t.Figures),.i t.Purse,.seq 2 (List.map D7 t.Incomes),.fn (.func 41) [] [],.fn (.func 42) [] [],.fn (.func 43) [] [],.fn (.func 25) [] [],.fn (.func 44) [] [],.fn (.func 45) [] [],.fn (.func 26) [] [],.fn (.func 46) [] [],.fn (.func 47) [] [],d]
def shI (t:PaShow) (w:List AV) (d:AV):List AV:=.seq 8 (List.map C1 t.Gowns) :: .seq 4 (List.map B3 t.Figures) :: .i t.Purse :: .seq 2 (List.map D7 t.Incomes) :: (w++[d])
def A0j (t:PaShow) (days:List Int):List AV:=A2g t (.seq 1 (List.map cI days))
def shw (t:PaShow) (days:List Int):pawn_show:=⟨t,⟨pawn_way.mk,pawn_way.mk,pawn_way.mk⟩,days⟩
theorem way3 {i:Int} {u:Unit} (h:inR 3 i = some u):i = 0∨i = 1∨i = 2:= by have:=B58 h; omega
theorem D0u {t:PaShow} {d:AV} {i:Int} {u:Unit} (h:inR 3 i = some u):((A2g t d).drop (4 + i.toNat * 3 + 2)).head? = some (.fn (.func (isel i 43 45 47)) [] []):= by rcases way3 h with rfl | rfl | rfl <;> rfl
theorem D0v {t:PaShow} {d:AV} {i:Int} {u:Unit} (h:inR 3 i = some u):((A2g t d).drop (4 + i.toNat * 3)).take 3 = [.fn (.func (isel i 41 25 26)) [] [],.fn (.func (isel i 42 44 46)) [] [],.fn (.func (isel i 43 45 47)) [] []]:= by rcases way3 h with rfl | rfl | rfl <;> rfl
theorem D0w {t:PaShow} {d:AV} {i:Int} {u:Unit} (h:inR 3 i = some u):Nat.ble 3 ((A2g t d).drop (4 + i.toNat * 3)).length = true:= by rcases way3 h with rfl | rfl | rfl <;> rfl
end Pw
end
section
set_option maxRecDepth 100000
namespace Pw
open Go Am Go.Proofs.Ytjpjdglddmhplaa.Cd
inductive SlV (H:A1):AV→List PaUse→Prop
 | seq (l:List PaUse):SlV H (.seq 3 (l.map A8)) l
 | asl (b:Nat) (p:Bool) (l:List PaUse) (h:harr H b = some (3,p,l.map A8)):SlV H (.asl b l.length) l
 | csl (b:Nat) (p:Bool) (o:Nat) (full l:List PaUse) (h:harr H b = some (3,p,full.map A8)) (hl:∀n a,l[n]? = some a→full[o + n]? = some a) (hq:o + l.length≤full.length):SlV H (.csl b o full.length l.length) l
theorem A63 {H:A1} {b:Nat} {x:Nat × Bool × List (List AV)} (h:harr H b = some x):b < H.length:= by
 unfold harr hget at h
 cases e:H[b]? with
 | none=>rw [e] at h; cases h
 | some o=>exact (List.getElem?_eq_some_iff.1 e).1
theorem V9 {H L:A1} {b:Nat} {x:Nat × Bool × List (List AV)} (h:harr H b = some x):harr (H++L) b = some x:= by
 have:=A63 h
 unfold harr hget at h ⊢
 rw [List.getElem?_append_left this]; exact h
theorem SlV.app {H L:A1} {v:AV} {l:List PaUse} (h:SlV H v l):SlV (H++L) v l:= by
 cases h with
 | seq=>exact .seq l
 | asl b p _ h=>exact .asl b p l (V9 h)
 | csl b p o full _ h hl hq=>exact .csl b p o full l (V9 h) hl hq
theorem SlV.bd {H:A1} {v:AV} {l:List PaUse} {k:Nat} (h:SlV H v l):v.bd (H.length + k) = true:= by
 cases h with
 | seq=>exact M0
 | asl b p _ h=>have:=A63 h; simp only [AV.bd]; exact Nat.ble_eq_true_of_le (by omega)
 | csl b p o full _ h hl hq=>have:=A63 h; simp only [AV.bd]; exact Nat.ble_eq_true_of_le (by omega)
def elP (v:AV) (n:Nat):AV:=match v with
 | .seq _ rows=>.cptr ((rows[n]?).getD [])
 | .asl b m=>.eptr b m n 0
 | .csl b o m _=>.eptr b m (o + n) 0
 | _=>.undef
def elF (off:Nat) (v:AV):AV:=match v with
 | .eptr b m i o=>.eptr b m i (o + off)
 | .cptr cs=>.cptr (cs.drop off)
 | _=>.undef
theorem B4j {H:A1} {v:AV} {l:List PaUse} {n:Int} {a:PaUse} (hv:SlV H v l) (ha:idx l n = some a):E2 H (elP v n.toNat) = some (A8 a):= by
 obtain ⟨h1,h2⟩:=A2q ha
 cases hv with
 | seq=>simp only [elP,E2,List.getElem?_map,h2,Option.map_some,Option.getD_some]
 | asl b p _ h=>simp only [elP,E2,h,List.length_map,Nat.beq_refl,if_true,List.getElem?_map,h2,Option.map_some,List.drop_zero]
 | csl b p o full _ h hl hq=>simp only [elP,E2,h,List.length_map,Nat.beq_refl,if_true,List.getElem?_map,hl _ _ h2,Option.map_some,List.drop_zero]
section
variable {T:Tab} {s:A6} {H0:A1} {l:List AO} {c:Sc} {n0:Nat} {v:AV} {e:List PaUse}
theorem A9n {x:Opd} (hv:SlV H0 v e) (h:ev s x = some v):One T c n0 s (H0++l) (.lenL x) (.lit (.int .i64 e.length)) (H0++l):=⟨0,by
 cases hv with
 | seq=>simp [core,prim,h]
 | asl b p _ hb=>simp [core,prim,h,V9 hb]
 | csl b p o full _ hb hl hq=>simp [core,prim,h]⟩
theorem A9m {x i:Opd} {kk:IntKind} {n:Int} {a:PaUse} (hv:SlV H0 v e) (ha:idx e n = some a) (h:ev s x = some v) (hi:ev s i = some (.lit (.int kk n))):One T c n0 s (H0++l) (.idxS 3 x i) (elP v n.toNat) (H0++l):=⟨0,by
 obtain ⟨h1,h2⟩:=A2q ha
 have hlt:n < (e.length:Int):= by have:=(List.getElem?_eq_some_iff.1 h2).1; omega
 cases hv with
 | seq=>simp [core,prim,h,hi,h1,h2,elP]
 | asl b p _ hb=>simp [core,prim,h,hi,h1,hlt,V9 hb,elP]
 | csl b p o full _ hb hl hq=>simp [core,prim,h,hi,h1,hlt,V9 hb,elP]⟩
theorem B1p {x:Opd} {n:Int} {a:PaUse} (hv:SlV H0 v e) (ha:idx e n = some a) (h:ev s x = some (elP v n.toNat)):One T c n0 s (H0++l) (.load (some 3) x) (.agg (A8 a)) (H0++l):=⟨0,by
 have:=B4j (hv.app (L:=l)) ha
 simp [core,prim,h,this,A8,Nat.ble]⟩
theorem C7i {x:Opd} {off:Nat} {n:Int} {a:PaUse} (hv:SlV H0 v e) (ha:idx e n = some a) (h:ev s x = some (elP v n.toNat)):One T c n0 s (H0++l) (.fieldAddr off x) (elF off (elP v n.toNat)) (H0++l):=⟨0,by
 cases hv <;> simp [core,prim,h,elP,elF]⟩
theorem B73 {x:Opd} {off:Nat} {n:Int} {a:PaUse} {y:AV} (hv:SlV H0 v e) (ha:idx e n = some a) (h:ev s x = some (elF off (elP v n.toNat))) (hy:((A8 a).drop off).head? = some y):One T c n0 s (H0++l) (.load none x) y (H0++l):=⟨0,by
 have h1:=B4j (hv.app (L:=l)) ha
 have h2:E2 (H0++l) (elF off (elP v n.toNat)) = some ((A8 a).drop off):= by
  cases hv with
  | seq =>
   simp only [elP,E2,Option.some.injEq] at h1
   simp only [elP,elF,E2,h1]
  | asl b p _ hb =>
   simp only [elP,E2,V9 hb,List.length_map,Nat.beq_refl,if_true] at h1
   simp only [elP,elF,E2,V9 hb,List.length_map,Nat.beq_refl,if_true]
   split at h1
   ·next r hr=>simp only [List.drop_zero,Option.some.injEq] at h1; simp only [h1,Nat.zero_add]
   ·cases h1
  | csl b p o full _ hb hl hq =>
   simp only [elP,E2,V9 hb,List.length_map,Nat.beq_refl,if_true] at h1
   simp only [elP,elF,E2,V9 hb,List.length_map,Nat.beq_refl,if_true]
   split at h1
   ·next r hr=>simp only [List.drop_zero,Option.some.injEq] at h1; simp only [h1,Nat.zero_add]
   ·cases h1
 simp only [core,prim,h,h2]
 cases hd:(A8 a).drop off with
 | nil=>rw [hd] at hy; cases hy
 | cons u t=>rw [hd] at hy; simp only [List.head?_cons,Option.some.injEq] at hy; subst hy; rfl⟩
def C62 (v:AV) (i:Nat) (m:List PaUse):AV:=match v with
 | .asl b n=>if i = 0 then .seq 3 [] else .csl b 0 n i
 | _=>.seq 3 (m.map A8)
theorem C63 {i:Int} {m:List PaUse} (hv:SlV H0 v e) (hne:∀b o a q,v ≠ .csl b o a q) (hm:slc e 0 i = some m):SlV H0 (C62 v i.toNat m) m:= by
 obtain ⟨h3,rfl⟩:=A03 hm
 simp only [Int.toNat_zero,List.drop_zero]
 cases hv with
 | seq=>exact .seq _
 | asl b p _ hb =>
  have hl:(e.take i.toNat).length = i.toNat:= by simp; omega
  unfold C62
  simp only
  split
  ·next hz=>rw [hz]; exact .seq []
  ·next hz =>
   have:=SlV.csl (H:=H0) b p 0 e (e.take i.toNat) hb (fun n a hn=>by
    rw [Nat.zero_add]
    have:=(List.getElem?_eq_some_iff.1 hn).1
    rw [List.getElem?_take_of_lt (by omega)] at hn; exact hn) (by omega)
   rwa [hl] at this
 | csl b p o full _ hb hl hq=>exact absurd rfl (hne _ _ _ _)
theorem C8g {x hi:Opd} {i:Int} {m:List PaUse} (hv:SlV H0 v e) (hne:∀b o a q,v ≠ .csl b o a q) (hm:slc e 0 i = some m) (h:ev s x = some v) (hi':ev s hi = some (.lit (.int .i64 i))):One T c n0 s (H0++l) (.sub 3 x none (some hi)) (C62 v i.toNat m) (H0++l):= by
 have hm0:=hm
 obtain ⟨h3,rfl⟩:=A03 hm
 simp only [Int.toNat_zero,List.drop_zero]
 cases hv with
 | seq=>exact D0k (f:=A8) (a:=0) (b:=i) h rfl (by simp [bnd,A4w,hi']) (by simpa using hm0)
 | asl b p _ hb =>
  refine ⟨0,?_⟩
  have hq:(0 = i)↔(i.toNat = 0):= by omega
  simp [core,prim,h,V9 hb,bnd,A4w,hi',h3.2.1,h3.2.2,C62,hq]
 | csl b p o full _ hb hl hq=>exact absurd rfl (hne _ _ _ _)
end
end Pw
namespace Am
open Go
def A58 {α β:Type} (T:Tab) (H:A1) (i:Nat) (ff fc:List AV) (g:α→Option β) (ea:α→List AV) (er:β→List AV):Prop :=
 (bdL H.length ff = true∧bdL H.length fc = true)∧∀ (L:A1) c x r,g x = some r→T8 T c (H++L) (.fn (.func i) ff fc) (ea x) (er r)
theorem A58.app {α β:Type} {T:Tab} {H:A1} {i:Nat} {ff fc:List AV} {g:α→Option β} {ea:α→List AV} {er:β→List AV} (h:A58 T H i ff fc g ea er) (l:List AO):A58 T (H++l) i ff fc g ea er :=
 ⟨⟨bdL_more (by simp) h.1.1,bdL_more (by simp) h.1.2⟩,fun L c x r e=>by rw [List.append_assoc]; exact h.2 (l++L) c x r e⟩
theorem A58.call {α β:Type} {T:Tab} {c:Sc} {H:A1} {i:Nat} {ff fc:List AV} {g:α→Option β} {ea:α→List AV} {er:β→List AV} (h:A58 T H i ff fc g ea er) {x:α} {r:β} (e:g x = some r) (l:List AO):T8 T c (H++l) (.fn (.func i) ff fc) (ea x) (er r):=h.2 l c x r e
end Am
end
section
set_option maxRecDepth 100000
set_option maxHeartbeats 0
namespace Pw
open Go Am Go.Proofs.Ytjpjdglddmhplaa.Cd
def J6 (a0:(List PaUse)) (g1:(PaUse→Option Bool)) (s1:Int):Option (Int ⊕ (Int ⊕ Unit)) :=
 if (decide (s1 < (List.length a0:Int))) = true then
  (idx a0 s1).bind fun x4 =>
  (g1 x4).bind fun x5 =>
  if x5 = true then
  some (.inr (.inl s1))
  else
  some (.inl (w64 (s1 + 1)))
 else
  some (.inr (.inr ()))
def G2 (a0:(List PaUse)) (g1:(PaUse→Option Bool)):Option Int :=
 (loop (J6 a0 g1) 0).bind fun (o7:(Int ⊕ Unit)) =>
 match o7 with
 | (.inl vo7_0) =>
  some vo7_0
 | (.inr vo7_1) =>
  some (-1)
theorem V6 {c:Sc} {H:A1} {a0:(List PaUse)} {g1:PaUse→Option Bool} {g1_i:Nat} {g1_f g1_c:List AV} (g1_h:Impl tab H g1_i g1_f g1_c g1 (fun y=>[(.agg (A8 y))]) (fun y=>[.b y])) {r:Int} (h:G2 a0 g1 = some r) :
  F2 tab c H (.fn (.func 95) [] []) [(.seq 3 (List.map A8 a0)),.fn (.func g1_i) g1_f g1_c] [.i r]:= by
 unfold G2 at h
 refine cE rfl rfl<|s0<|qm rfl<|es (ra2 rfl rfl)<|C6<|s0<|qm rfl<|A0 (I6 (f:=A8) rfl) rfl<|qm rfl<|es (ra4 rfl rfl rfl rfl)<|C4<|oB h fun o7 ho7 h=>wl (fun s1=>[(0,(.seq 3 (List.map A8 a0))),(1,(.fn (.func g1_i) g1_f g1_c)),(7,(.i (List.length a0:Int))),(8,.i s1)]) (fun (q2:Unit) s1=>[]) 0 (fun r e s' H'=>(match r with | (.inl v)=>e = .ret∧RetQ H [.tmp 4] [.i v] e s' H' | (.inr v)=>PX 0 [] (H++[]) e s' H':Prop)) () ho7 rfl rfl (fun _ _=>rfl) (fun _=>rfl) rfl (fun s1=>(bdc M0 (bdc (B64 g1_h.1) (bdc A4 (bdc A4 bdn))))) (fun q2 s1 ys1 hs1=>?_) ?_
 ·unfold J6 at hs1
  refine s0<|A0 (L5 rfl rfl) rfl<|es (ra5 rfl rfl rfl rfl rfl)<|C6<|wi hs1 rfl (fun hc3 hs1=>?_) fun hc3 hs1=>?_
  ·refine C9<|C6<|C4<|s0<|qm rfl<|qm rfl<|es (ra5 rfl rfl rfl rfl rfl)<|s0<|oB hs1 fun x4 hx4 hs1=>oB hs1 fun x5 hx5 hs1=>qm rfl<|qm rfl<|qm rfl<|A0 (J0 (f:=A8) rfl rfl hx4) rfl<|A0 (H8 rfl rfl) rfl<|B8 (rs:=[.b x5]) rfl rfl (A2 (D8 rfl) B5) (Impl.call g1_h hx5 _)<|es (ra6 rfl rfl rfl rfl rfl rfl)<|wi hs1 rfl (fun hc6 hs1=>?_) fun hc6 hs1=>?_
   ·refine s0<|qm rfl<|qm rfl<|es (ra1 rfl)<|C7 ?_
    obtain rfl:=os hs1
    exact lx rfl (And.intro rfl (retq trivial (A9 rfl C0) (A5 rfl B9) (A3 A4 B1))) (Sub.refl _)
   ·refine C9<|r0<|A0 (G6 rfl rfl) rfl<|qm rfl<|en (ra4 rfl rfl rfl rfl) ?_
    cases hs1
    exact lnT () rfl (su4 rfl rfl rfl rfl)
  ·refine K4 ?_
   obtain rfl:=os hs1
   exact lx rfl px (.nil _)
 ·rcases o7 with vo7_0 | vo7_1
  ·rintro e s' H' - ⟨rfl,hret⟩
   cases h
   exact hret
  ·rintro e s' H' - ⟨rfl,rfl,rfl⟩
   refine s0<|qm rfl<|es (ra1 rfl)<|C7 ?_
   obtain rfl:=os h
   exact retq trivial (A9 rfl C0) (A5 rfl B9) (A3 A4 B1)
def E7 (a0:(List PaUse)) (g1:(PaUse→Option Bool)):Option Bool :=
 (G2 a0 g1).bind fun x1 =>
 some (decide (x1 ≥ 0))
theorem T3 {c:Sc} {H:A1} {a0:(List PaUse)} {g1:PaUse→Option Bool} {g1_i:Nat} {g1_f g1_c:List AV} (g1_h:Impl tab H g1_i g1_f g1_c g1 (fun y=>[(.agg (A8 y))]) (fun y=>[.b y])) {r:Bool} (h:E7 a0 g1 = some r) :
  F2 tab c H (.fn (.func 72) [] []) [(.seq 3 (List.map A8 a0)),.fn (.func g1_i) g1_f g1_c] [.b r]:= by
 unfold E7 at h
 refine cE rfl rfl<|s0<|qm rfl<|es (ra2 rfl rfl)<|s0<|oB h fun x1 hx1 h=>qm rfl<|qm rfl<|N2 (R3 (rs:=[.i x1]) rfl rfl ((V6 (Impl.app g1_h _) hx1).frz)) rfl<|A0 (B0a rfl rfl) rfl<|qm rfl<|es (ra1 rfl)<|C7 ?_
 obtain rfl:=os h
 exact retq trivial (A9 rfl C0) (A5 rfl B9) (A3 A4 B1)
theorem U7 {c:Sc} {H:A1} {a0:(List PaUse)} {v:AV} (hv:SlV H v a0) {g1:PaUse→Option Bool} {g1_i:Nat} {g1_f g1_c:List AV} (g1_h:A58 tab H g1_i g1_f g1_c g1 (fun y=>[(.agg (A8 y))]) (fun y=>[.b y])) {r:Int} (h:G2 a0 g1 = some r) :
  F2 tab c H (.fn (.func 95) [] []) [v,.fn (.func g1_i) g1_f g1_c] [.i r]:= by
 unfold G2 at h
 refine cE rfl rfl<|s0<|qm rfl<|es (ra2 rfl rfl)<|C6<|s0<|qm rfl<|A0 (A9n hv rfl) rfl<|qm rfl<|es (ra4 rfl rfl rfl rfl)<|C4<|oB h fun o7 ho7 h=>wl (fun s1=>[(0,v),(1,(.fn (.func g1_i) g1_f g1_c)),(7,(.i (List.length a0:Int))),(8,.i s1)]) (fun (q2:Unit) s1=>[]) 0 (fun r e s' H'=>(match r with | (.inl v)=>e = .ret∧RetQ H [.tmp 4] [.i v] e s' H' | (.inr v)=>PX 0 [] (H++[]) e s' H':Prop)) () ho7 rfl rfl (fun _ _=>rfl) (fun _=>rfl) rfl (fun s1=>(bdc hv.bd (bdc (B64 g1_h.1) (bdc A4 (bdc A4 bdn))))) (fun q2 s1 ys1 hs1=>?_) ?_
 ·unfold J6 at hs1
  refine s0<|A0 (L5 rfl rfl) rfl<|es (ra5 rfl rfl rfl rfl rfl)<|C6<|wi hs1 rfl (fun hc3 hs1=>?_) fun hc3 hs1=>?_
  ·refine C9<|C6<|C4<|s0<|qm rfl<|qm rfl<|es (ra5 rfl rfl rfl rfl rfl)<|s0<|oB hs1 fun x4 hx4 hs1=>oB hs1 fun x5 hx5 hs1=>qm rfl<|qm rfl<|qm rfl<|A0 (A9m hv hx4 rfl rfl) rfl<|A0 (B1p hv hx4 rfl) rfl<|B8 (rs:=[.b x5]) rfl rfl (A2 (D8 rfl) B5) (A58.call g1_h hx5 _)<|es (ra6 rfl rfl rfl rfl rfl rfl)<|wi hs1 rfl (fun hc6 hs1=>?_) fun hc6 hs1=>?_
   ·refine s0<|qm rfl<|qm rfl<|es (ra1 rfl)<|C7 ?_
    obtain rfl:=os hs1
    exact lx rfl (And.intro rfl (retq trivial (A9 rfl C0) (A5 rfl B9) (A3 A4 B1))) (Sub.refl _)
   ·refine C9<|r0<|A0 (G6 rfl rfl) rfl<|qm rfl<|en (ra4 rfl rfl rfl rfl) ?_
    cases hs1
    exact lnT () rfl (su4 rfl rfl rfl rfl)
  ·refine K4 ?_
   obtain rfl:=os hs1
   exact lx rfl px (.nil _)
 ·rcases o7 with vo7_0 | vo7_1
  ·rintro e s' H' - ⟨rfl,hret⟩
   cases h
   exact hret
  ·rintro e s' H' - ⟨rfl,rfl,rfl⟩
   refine s0<|qm rfl<|es (ra1 rfl)<|C7 ?_
   obtain rfl:=os h
   exact retq trivial (A9 rfl C0) (A5 rfl B9) (A3 A4 B1)
theorem S8 {c:Sc} {H:A1} {a0:(List PaUse)} {v:AV} (hv:SlV H v a0) {g1:PaUse→Option Bool} {g1_i:Nat} {g1_f g1_c:List AV} (g1_h:A58 tab H g1_i g1_f g1_c g1 (fun y=>[(.agg (A8 y))]) (fun y=>[.b y])) {r:Bool} (h:E7 a0 g1 = some r) :
  F2 tab c H (.fn (.func 72) [] []) [v,.fn (.func g1_i) g1_f g1_c] [.b r]:= by
 unfold E7 at h
 refine cE rfl rfl<|s0<|qm rfl<|es (ra2 rfl rfl)<|s0<|oB h fun x1 hx1 h=>qm rfl<|qm rfl<|N2 (R3 (rs:=[.i x1]) rfl rfl ((U7 hv.app (A58.app g1_h _) hx1).frz)) rfl<|A0 (B0a rfl rfl) rfl<|qm rfl<|es (ra1 rfl)<|C7 ?_
 obtain rfl:=os h
 exact retq trivial (A9 rfl C0) (A5 rfl B9) (A3 A4 B1)
def W8 (a0:PaUse) (a1:(List PaUse)) (a2:Int):Option Bool :=
 (idx a1 a2).bind fun x1 =>
 some (a0.Gown == x1.Gown)
theorem A9p {c:Sc} {H:A1} {a0:PaUse} {a1:List PaUse} {v:AV} (hv:SlV H v a1) {b1:Nat} (hb1:hcells H b1 = some [v]) {a2:Int} {b2:Nat} (hb2:hcells H b2 = some (cI a2)) {r:Bool} (h:W8 a0 a1 a2 = some r) :
  F2 tab c H (.fn (.func 73) [] []) [(.agg (A8 a0)),.ptr b1 0,.ptr b2 0] [.b r]:= by
 unfold W8 at h
 refine cE rfl rfl<|sg 0 rfl<|A0 (F9 (cs:=A8 a0) rfl rfl rfl) rfl<|qm rfl<|es (ra3 rfl rfl rfl)<|s0<|oB h fun x1 hx1 h=>A0 (C3 rfl) rfl<|A0 (B7 rfl rfl rfl) rfl<|A0 (E9 rfl hb1 rfl) rfl<|A0 (E9 rfl hb2 rfl) rfl<|A0 (A9m hv hx1 rfl rfl) rfl<|A0 (C7i hv hx1 rfl) rfl<|A0 (B73 (y:=.i x1.Gown) hv hx1 rfl rfl) rfl<|A0 (I3 rfl rfl) rfl<|qm rfl<|es (ra1 rfl)<|C7 ?_
 obtain rfl:=os h
 exact retq trivial (A9 rfl C0) (A5 rfl B9) (A3 A4 B1)
def A4f (a0:List PaUse) (a1:Int):Option Bool :=
 (idx a0 a1).bind fun x =>
 (if (x.Gown != (-1)) = true then (slc a0 0 a1).bind fun m=>(E7 m (fun y=>W8 y a0 a1)).bind fun z=>some z else some false).bind fun g=>some g
theorem A49 {c:Sc} {H:A1} {a0:List PaUse} {v:AV} (hv:SlV H v a0) (hne:∀b o a q,v ≠ .csl b o a q) (hc:v.cellsOf = [v]) {a1:Int} {r:Bool} (h:A4f a0 a1 = some r) :
  F2 tab c H (.fn (.func 53) [] []) [v,.i a1] [.b r]:= by
 unfold A4f at h
 refine oB h fun x hx h=>oB h fun g hg h=>?_
 have hbd:v.bd (H.length + 2) = true:=hv.bd
 refine cE rfl rfl<|sg 0 rfl<|A0 (F9 (cs:=[v]) rfl hc rfl) rfl<|A0 (F9 (cs:=cI a1) rfl rfl rfl) rfl<|qm rfl<|es (ra2 rfl rfl)<|s0<|A0 (B7 (x:=v) rfl rfl rfl) rfl<|A0 (B7 (x:=.i a1) rfl rfl rfl) rfl<|A0 (A9m hv hx rfl rfl) rfl<|A0 (C7i hv hx rfl) rfl<|A0 (B73 (y:=.i x.Gown) hv hx rfl rfl) rfl<|A0 (P6 rfl rfl) rfl<|qm rfl ?_
 refine gp 6 17 (.b g) 11 rfl rfl (fun hb=>?_) (fun hb=>?_) ?_
 ·refine oB (bt hg hb) fun m hm hg=>oB hg fun z hz hg=>?_
  obtain rfl:=os hg
  refine gT rfl hb<|A0 (B7 (x:=v) rfl rfl rfl) rfl<|gT rfl hb<|A0 (B7 (x:=.i a1) rfl rfl rfl) rfl<|gT rfl hb<|A0 (C8g hv hne hm rfl rfl) rfl<|gT rfl hb<|A0 (A0q rfl rfl) rfl<|gT rfl hb<|N2 (R3 (rs:=[.b z]) rfl rfl ((S8 (C63 hv hne hm).app (show A58 tab _ 73 [] [.ptr (H.length + 0) 0,.ptr (H.length + 1) 0] (fun y=>W8 y a0 a1) (fun y=>[.agg (A8 y)]) (fun y=>[.b y]) from ⟨⟨B1,by rw [List.length_append]; exact A3 (R0 rfl) (A3 (R0 rfl) B1)⟩,fun L c y r hr=>(A0k (A9p hv.app.app (D3 (D5 rfl) _) (D3 (D5 rfl) _) hr)).frz⟩) hz).frz)) rfl<|A0 (D1 rfl hb rfl) rfl<|ge 6 rfl rfl rfl
 ·obtain rfl:=os (bf hg hb)
  exact nT rfl hb rfl<|nT rfl hb rfl<|nT rfl hb rfl<|nT rfl hb rfl<|K6 (F4 rfl (by rw [hb]; rfl)) rfl<|A0 (D0 rfl hb rfl) rfl<|ge 6 rfl rfl rfl
 ·refine qm rfl<|es (ra1 rfl)<|C7 ?_
  obtain rfl:=os h
  exact retq trivial (A9 rfl C0) (A5 rfl B9) (A3 A4 B1)
def A1z :Option PaUse :=
 some (PaUse.mk (-1) 0 0)
theorem A1m {c:Sc} {H:A1}  {r:PaUse} (h:A1z  = some r) :
  F2 tab c H (.fn (.func 52) [] []) [] [(.agg (A8 r))]:= by
 unfold A1z at h
 refine cE rfl rfl<|sg 0 rfl<|A0 G8 rfl<|es (ra1 rfl)<|s0<|A0 (O1 (cs:=A8 (PaUse.mk (-1) 0 0)) rfl rfl) rfl<|M4 (E4 (ds:=(A8 (PaUse.mk (-1) 0 0))) rfl rfl rfl rfl (D9 rfl) rfl) rfl<|es (ra1 rfl)<|C7 ?_
 obtain rfl:=os h
 exact retq trivial (A54 (A00 (ds:=A8 (PaUse.mk (-1) 0 0)) rfl rfl rfl rfl) C0) (A5 (A9s rfl) B9) (A3 (A81 rfl) B1)
def A4b (a0:PaGown) (a1:PaFigure) (a2:Int):Option Bool :=
 some (a2 == 0)
theorem B09 {c:Sc} {H:A1} {a0:PaGown} {a1:PaFigure} {a2:Int} {r:Bool} (h:A4b a0 a1 a2 = some r) :
  F2 tab c H (.fn (.func 43) [] []) [(.agg (C1 a0)),(.agg (B3 a1)),.i a2] [.b r]:= by
 unfold A4b at h
 refine cE rfl rfl<|sg 0 rfl<|A0 (F9 (cs:=C1 a0) rfl rfl rfl) rfl<|A0 (F9 (cs:=B3 a1) rfl rfl rfl) rfl<|qm rfl<|es (ra1 rfl)<|s0<|qm rfl<|A0 (I3 rfl rfl) rfl<|qm rfl<|es (ra1 rfl)<|C7 ?_
 obtain rfl:=os h
 exact retq trivial (A9 rfl C0) (A5 rfl B9) (A3 A4 B1)
def A4d (a0:PaGown) (a1:PaFigure) (a2:Int):Option Bool :=
 some (decide (a2≤(C91 a0.Last a1.Day)))
theorem B1b {c:Sc} {H:A1} {a0:PaGown} {a1:PaFigure} {a2:Int} {r:Bool} (h:A4d a0 a1 a2 = some r) :
  F2 tab c H (.fn (.func 45) [] []) [(.agg (C1 a0)),(.agg (B3 a1)),.i a2] [.b r]:= by
 unfold A4d at h
 refine cE rfl rfl<|sg 0 rfl<|A0 (F9 (cs:=C1 a0) rfl rfl rfl) rfl<|A0 (F9 (cs:=B3 a1) rfl rfl rfl) rfl<|qm rfl<|es (ra3 rfl rfl rfl)<|s0<|qm rfl<|A0 (C3 rfl) rfl<|A0 (B7 rfl rfl rfl) rfl<|A0 (C3 rfl) rfl<|A0 (B7 rfl rfl rfl) rfl<|A0 (C4h rfl rfl) rfl<|A0 (A59 rfl rfl) rfl<|qm rfl<|es (ra1 rfl)<|C7 ?_
 obtain rfl:=os h
 exact retq trivial (A9 rfl C0) (A5 rfl B9) (A3 A4 B1)
def A1r (a0:PaGown) (a1:PaFigure) (a2:Int):Option Bool :=
 some (decide (a1.Until≤a0.Last))
theorem A4p {c:Sc} {H:A1} {a0:PaGown} {a1:PaFigure} {a2:Int} {r:Bool} (h:A1r a0 a1 a2 = some r) :
  F2 tab c H (.fn (.func 47) [] []) [(.agg (C1 a0)),(.agg (B3 a1)),.i a2] [.b r]:= by
 unfold A1r at h
 refine cE rfl rfl<|sg 0 rfl<|A0 (F9 (cs:=C1 a0) rfl rfl rfl) rfl<|A0 (F9 (cs:=B3 a1) rfl rfl rfl) rfl<|qm rfl<|es (ra2 rfl rfl)<|s0<|A0 (C3 rfl) rfl<|A0 (B7 rfl rfl rfl) rfl<|A0 (C3 rfl) rfl<|A0 (B7 rfl rfl rfl) rfl<|A0 (A59 rfl rfl) rfl<|qm rfl<|es (ra1 rfl)<|C7 ?_
 obtain rfl:=os h
 exact retq trivial (A9 rfl C0) (A5 rfl B9) (A3 A4 B1)
def A0e (a0:Int) (a1:Int) (a2:Int):Option Bool :=
 some ((decide (a0 < a1)) || (decide (a0 > a2)))
theorem A8d {c:Sc} {H:A1} {a0:Int} {a1:Int} {b1:Nat} (hb1:hcells H b1 = some (cI a1)) {a2:Int} {b2:Nat} (hb2:hcells H b2 = some (cI a2)) {r:Bool} (h:A0e a0 a1 a2 = some r) :
  F2 tab c H (.fn (.func 51) [] []) [.i a0,.ptr b1 0,.ptr b2 0] [.b r]:= by
 unfold A0e at h
 refine cE rfl rfl<|s0<|qm rfl<|es (ra3 rfl rfl rfl)<|s0<|qm rfl<|A0 (E9 rfl hb1 rfl) rfl<|A0 (L5 rfl rfl) rfl<|qm rfl<|gp 4 12 (.b ((decide (a0 < a1)) || (decide (a0 > a2)))) 8 rfl rfl (fun hg1=>?_) (fun hg1=>?_) ?_
 ·exact nF rfl hg1 rfl<|nF rfl hg1 rfl<|nF rfl hg1 rfl<|A0 (D1 rfl hg1 rfl) rfl<|ge 4 (by rw [hg1]; rfl) rfl rfl
 ·exact gF rfl hg1<|qm rfl<|gF rfl hg1<|A0 (E9 rfl hb2 rfl) rfl<|gF rfl hg1<|A0 (A4m rfl rfl) rfl<|A0 (D0 rfl hg1 rfl) rfl<|ge 4 (by rw [hg1]; rfl) rfl rfl
 refine qm rfl<|es (ra1 rfl)<|C7 ?_
 obtain rfl:=os h
 exact retq trivial (A9 rfl C0) (A5 rfl B9) (A3 A4 B1)
def V4 (a0:(List Int)) (g1:(Int→Option Bool)) (s1:Int):Option (Int ⊕ (Int ⊕ Unit)) :=
 if (decide (s1 < (List.length a0:Int))) = true then
  (idx a0 s1).bind fun x4 =>
  (g1 x4).bind fun x5 =>
  if x5 = true then
  some (.inr (.inl s1))
  else
  some (.inl (w64 (s1 + 1)))
 else
  some (.inr (.inr ()))
def R4 (a0:(List Int)) (g1:(Int→Option Bool)):Option Int :=
 (loop (V4 a0 g1) 0).bind fun (o7:(Int ⊕ Unit)) =>
 match o7 with
 | (.inl vo7_0) =>
  some vo7_0
 | (.inr vo7_1) =>
  some (-1)
theorem A1n {c:Sc} {H:A1} {a0:(List Int)} {g1:Int→Option Bool} {g1_i:Nat} {g1_f g1_c:List AV} (g1_h:Impl tab H g1_i g1_f g1_c g1 (fun y=>[.i y]) (fun y=>[.b y])) {r:Int} (h:R4 a0 g1 = some r) :
  F2 tab c H (.fn (.func 71) [] []) [(.seq 1 (List.map cI a0)),.fn (.func g1_i) g1_f g1_c] [.i r]:= by
 unfold R4 at h
 refine cE rfl rfl<|s0<|qm rfl<|es (ra2 rfl rfl)<|C6<|s0<|qm rfl<|A0 (I6 (f:=cI) rfl) rfl<|qm rfl<|es (ra4 rfl rfl rfl rfl)<|C4<|oB h fun o7 ho7 h=>wl (fun s1=>[(0,(.seq 1 (List.map cI a0))),(1,(.fn (.func g1_i) g1_f g1_c)),(7,(.i (List.length a0:Int))),(8,.i s1)]) (fun (q2:Unit) s1=>[]) 0 (fun r e s' H'=>(match r with | (.inl v)=>e = .ret∧RetQ H [.tmp 4] [.i v] e s' H' | (.inr v)=>PX 0 [] (H++[]) e s' H':Prop)) () ho7 rfl rfl (fun _ _=>rfl) (fun _=>rfl) rfl (fun s1=>(bdc M0 (bdc (B64 g1_h.1) (bdc A4 (bdc A4 bdn))))) (fun q2 s1 ys1 hs1=>?_) ?_
 ·unfold V4 at hs1
  refine s0<|A0 (L5 rfl rfl) rfl<|es (ra5 rfl rfl rfl rfl rfl)<|C6<|wi hs1 rfl (fun hc3 hs1=>?_) fun hc3 hs1=>?_
  ·refine C9<|C6<|C4<|s0<|qm rfl<|qm rfl<|es (ra5 rfl rfl rfl rfl rfl)<|s0<|oB hs1 fun x4 hx4 hs1=>oB hs1 fun x5 hx5 hs1=>qm rfl<|qm rfl<|qm rfl<|A0 (J0 (f:=cI) rfl rfl hx4) rfl<|A0 (A1j rfl rfl) rfl<|B8 (rs:=[.b x5]) rfl rfl (A2 rfl B5) (Impl.call g1_h hx5 _)<|es (ra6 rfl rfl rfl rfl rfl rfl)<|wi hs1 rfl (fun hc6 hs1=>?_) fun hc6 hs1=>?_
   ·refine s0<|qm rfl<|qm rfl<|es (ra1 rfl)<|C7 ?_
    obtain rfl:=os hs1
    exact lx rfl (And.intro rfl (retq trivial (A9 rfl C0) (A5 rfl B9) (A3 A4 B1))) (Sub.refl _)
   ·refine C9<|r0<|A0 (G6 rfl rfl) rfl<|qm rfl<|en (ra4 rfl rfl rfl rfl) ?_
    cases hs1
    exact lnT () rfl (su4 rfl rfl rfl rfl)
  ·refine K4 ?_
   obtain rfl:=os hs1
   exact lx rfl px (.nil _)
 ·rcases o7 with vo7_0 | vo7_1
  ·rintro e s' H' - ⟨rfl,hret⟩
   cases h
   exact hret
  ·rintro e s' H' - ⟨rfl,rfl,rfl⟩
   refine s0<|qm rfl<|es (ra1 rfl)<|C7 ?_
   obtain rfl:=os h
   exact retq trivial (A9 rfl C0) (A5 rfl B9) (A3 A4 B1)
def O4 (a0:(List Int)) (g1:(Int→Option Bool)):Option Bool :=
 (R4 a0 g1).bind fun x1 =>
 some (decide (x1 ≥ 0))
theorem A0s {c:Sc} {H:A1} {a0:(List Int)} {g1:Int→Option Bool} {g1_i:Nat} {g1_f g1_c:List AV} (g1_h:Impl tab H g1_i g1_f g1_c g1 (fun y=>[.i y]) (fun y=>[.b y])) {r:Bool} (h:O4 a0 g1 = some r) :
  F2 tab c H (.fn (.func 50) [] []) [(.seq 1 (List.map cI a0)),.fn (.func g1_i) g1_f g1_c] [.b r]:= by
 unfold O4 at h
 refine cE rfl rfl<|s0<|qm rfl<|es (ra2 rfl rfl)<|s0<|oB h fun x1 hx1 h=>qm rfl<|qm rfl<|B8 (rs:=[.i x1]) rfl rfl (A2 rfl (A2 rfl B5)) ((A1n (Impl.app g1_h _) hx1).frz)<|A0 (B0a rfl rfl) rfl<|qm rfl<|es (ra1 rfl)<|C7 ?_
 obtain rfl:=os h
 exact retq trivial (A9 rfl C0) (A5 rfl B9) (A3 A4 B1)
def F3 (a0:Int) (a1:Int) (a2:(List Int)):Option Bool :=
 (O4 a2 (fun (y:Int)=>A0e y a0 a1)).bind fun x1 =>
 some x1
theorem E3 {c:Sc} {H:A1} {a0:Int} {a1:Int} {a2:(List Int)} {r:Bool} (h:F3 a0 a1 a2 = some r) :
  F2 tab c H (.fn (.func 24) [] []) [.i a0,.i a1,(.seq 1 (List.map cI a2))] [.b r]:= by
 unfold F3 at h
 refine cE rfl rfl<|sg 0 rfl<|A0 (F9 (cs:=cI a0) rfl rfl rfl) rfl<|A0 (F9 (cs:=cI a1) rfl rfl rfl) rfl<|qm rfl<|es (ra3 rfl rfl rfl)<|s0<|oB h fun x1 hx1 h=>qm rfl<|A0 (A0q rfl rfl) rfl<|B8 (rs:=[.b x1]) rfl rfl (A2 rfl (A2 rfl B5)) ((A0s (show Impl _ _ 51 [] [(.ptr (H.length + 0) 0),(.ptr (H.length + 1) 0)] (fun (y:Int)=>A0e y a0 a1) (fun (y:Int)=>[.i y]) (fun (y:Bool)=>[.b y]) from ⟨⟨B1,(by rw [List.length_append]; exact (A3 (R0 rfl) (A3 (R0 rfl) B1)))⟩,fun H' hle hag c y r hr=>(A0k (A8d (hag _ _ (D5 rfl)) (hag _ _ (D5 rfl)) hr)).frz⟩) hx1).frz)<|qm rfl<|es (ra1 rfl)<|C7 ?_
 obtain rfl:=os h
 exact retq trivial (A9 rfl C0) (A5 rfl B9) (A3 A4 B1)
def X8 (a0:pawn_show) (a1:Int) (a2:PaUse):Option Int :=
 (A1z).bind fun x1 =>
 if ((a2.Gown == x1.Gown) && ((a2.How == x1.How) && ((a2.Day == x1.Day) && true))) = true then
  some 0
 else
  if (a2.Gown == (-1)) = true then
  some 2
  else
  (F3 0 (w64 ((List.length a0.PaShow.Gowns:Int) - 1)) [a2.Gown]).bind fun x4 =>
  if x4 = true then
   some 4
  else
   (idx a0.PaShow.Gowns a2.Gown).bind fun x6 =>
   (idx a0.PaShow.Figures a1).bind fun x7 =>
   (if (a2.How == 1) = true then
    some 364
   else
    some 0).bind fun (p8:Int) =>
   (F3 0 2 [a2.How]).bind fun x10 =>
   (if (x10 || (!(x6.Pawn == (a2.How != 0)))) = true then
   some true
   else
   (F3 0 p8 [a2.Day]).bind fun x13 =>
   some x13).bind fun x14 =>
   if x14 = true then
   some 2
   else
   (if ((C0g x7.Needs x6.Looks) != 0) = true then
    some true
   else
    (inR 3 a2.How).bind fun x17 =>
    (sel3 a2.How (A4b x6 x7 a2.Day) (A4d x6 x7 a2.Day) (A1r x6 x7 a2.Day)).bind fun x18 =>
    some (!x18)).bind fun x19 =>
   if x19 = true then
    some 9
   else
    some 0
theorem A0r {c:Sc} {H:A1} {a0:pawn_show} {b0:Nat} (hb0:hcells H b0 = some [(.seq 8 (List.map C1 a0.PaShow.Gowns)),(.seq 4 (List.map B3 a0.PaShow.Figures)),.i a0.PaShow.Purse,(.seq 2 (List.map D7 a0.PaShow.Incomes)),(.fn (.func 41) [] []),(.fn (.func 42) [] []),(.fn (.func 43) [] []),(.fn (.func 25) [] []),(.fn (.func 44) [] []),(.fn (.func 45) [] []),(.fn (.func 26) [] []),(.fn (.func 46) [] []),(.fn (.func 47) [] []),(.seq 1 (List.map cI a0.days_))]) {a1:Int} {a2:PaUse} {r:Int} (h:X8 a0 a1 a2 = some r) :
  F2 tab c H (.fn (.func 27) [] []) [.ptr b0 0,.i a1,(.agg (A8 a2))] [.i r]:= by
 unfold X8 at h
 refine cE rfl rfl<|sg 0 rfl<|A0 (F9 (cs:=A8 a2) rfl rfl rfl) rfl<|qm rfl<|es (ra3 rfl rfl rfl)<|C6<|C4<|s0<|oB h fun x1 hx1 h=>A0 (E5 rfl rfl rfl) rfl<|S3 (rs:=[(.agg (A8 x1))]) rfl rfl A0t B5 ((A1m hx1).frz)<|A0 (B9r (a:=A8 a2) (b:=A8 x1) rfl rfl rfl rfl (R8 (R8 (R8 A7u)))) rfl<|qm rfl<|es (ra4 rfl rfl rfl rfl)<|wi h rfl (fun hc2 h=>?_) fun hc2 h=>?_
 ·refine s0<|qm rfl<|es (ra1 rfl)<|C7 ?_
  obtain rfl:=os h
  exact retq trivial (A9 rfl C0) (A5 rfl B9) (A3 A4 B1)
 ·refine s0<|A0 (C3 rfl) rfl<|A0 (B7 rfl rfl rfl) rfl<|A0 (I3 rfl rfl) rfl<|qm rfl<|es (ra4 rfl rfl rfl rfl)<|wi h rfl (fun hc3 h=>?_) fun hc3 h=>?_
  ·refine s0<|qm rfl<|es (ra1 rfl)<|C7 ?_
   obtain rfl:=os h
   exact retq trivial (A9 rfl C0) (A5 rfl B9) (A3 A4 B1)
  ·refine s0<|oB h fun x4 hx4 h=>qm rfl<|A0 (J8 rfl rfl) rfl<|A0 (C3 rfl) rfl<|A0 (C3 rfl) rfl<|A0 (E9 (x:=(.seq 8 (List.map C1 a0.PaShow.Gowns))) rfl hb0 rfl) rfl<|A0 (I6 (f:=C1) rfl) rfl<|A0 (Z0 rfl rfl) rfl<|A0 (C3 rfl) rfl<|A0 (B7 rfl rfl rfl) rfl<|A0 (I1 (rows:=List.map cI [a2.Gown]) rfl rfl (E0 (fun _=>rfl) _)) rfl<|B8 (rs:=[.b x4]) rfl rfl (A2 rfl (A2 rfl (A2 rfl B5))) ((E3 hx4).frz)<|qm rfl<|es (ra4 rfl rfl rfl rfl)<|wi h rfl (fun hc5 h=>?_) fun hc5 h=>?_
   ·refine s0<|qm rfl<|es (ra1 rfl)<|C7 ?_
    obtain rfl:=os h
    exact retq trivial (A9 rfl C0) (A5 rfl B9) (A3 A4 B1)
   ·refine C9<|sg 1 rfl<|oB h fun x6 hx6 h=>oB h fun x7 hx7 h=>qm rfl<|A0 (J8 rfl rfl) rfl<|A0 (C3 rfl) rfl<|A0 (C3 rfl) rfl<|L6 [1,2] (V1 [1,2] rfl J2 rfl rfl) (seen0 rfl) (E9 (x:=(.seq 8 (List.map C1 a0.PaShow.Gowns))) rfl hb0 rfl) rfl<|A0 (C3 rfl) rfl<|L6 [1,2] (V1 [1,2] rfl J2 rfl rfl) (seen0 rfl) (B7 rfl rfl rfl) rfl<|L6 [1,2] (V1 [1,2] rfl J2 rfl rfl) (seen0 rfl) (J0 (f:=C1) rfl rfl hx6) rfl<|L6 [1,2] (V1 [1,2] rfl J2 rfl rfl) (seen0 rfl) (H8 rfl rfl) rfl<|A0 G8 rfl<|A0 G8 rfl<|C4t [] [(.cells (A8 a2)),(.cells (C1 x6)),(.cells (B3 (PaFigure.mk (ByteArray.mk #[]) 0 0 0)))] (A1i hb0) (C7z [] rfl (B5q rfl B2f J2) rfl rfl (A1i hb0) (B9k hb0)) (seen0 rfl) (C4a (E8 _ _ _) (ds:=(C1 x6)) rfl rfl rfl rfl rfl rfl) rfl rfl rfl<|qm rfl<|A0 (J8 rfl rfl) rfl<|A0 (C3 rfl) rfl<|A0 (C3 rfl) rfl<|L6 [1,2] (V1 [1,2] rfl J2 rfl rfl) (C1j (b:=b0) rfl (B5m (B34 _ _) B8o)) (E9 (x:=(.seq 4 (List.map B3 a0.PaShow.Figures))) rfl hb0 rfl) rfl<|qm rfl<|L6 [1,2] (V1 [1,2] rfl J2 rfl rfl) (B5l rfl) (J0 (f:=B3) rfl rfl hx7) rfl<|L6 [1,2] (V1 [1,2] rfl J2 rfl rfl) (B5l rfl) (H8 rfl rfl) rfl<|M4 (E4 (ds:=(B3 x7)) rfl rfl rfl rfl (D9 rfl) rfl) rfl<|es (ra4 rfl rfl rfl rfl)<|s0<|qm rfl<|es (ra5 rfl rfl rfl rfl rfl)<|C6<|s0<|A0 (C3 rfl) rfl<|A0 (B7 rfl rfl rfl) rfl<|A0 (I3 rfl rfl) rfl<|es (ra6 rfl rfl rfl rfl rfl rfl)<|oB h fun p8 hp8 h=>B99 (Q1:=fun e s' H'=>e = .normal∧s' = [(0,.ptr b0 0),(5,(.ptr (H.length + 0) 0)),(7,(.ptr (H.length + 1) 0)),(8,(.ptr (H.length + 2) 0)),(9,.i p8)]∧H' = (H++[(.cells (A8 a2)),(.cells (C1 x6)),(.cells (B3 x7))])) ?_ ?_
    ·refine wi hp8 rfl (fun hc9 hp8=>?_) fun hc9 hp8=>?_
     ·refine r0<|qm rfl<|en (ra5 rfl rfl rfl rfl rfl) ?_
      obtain rfl:=os hp8
      exact me (And.intro rfl (And.intro rfl rfl)) (su5 rfl rfl rfl rfl rfl)
     ·refine C9 ?_
      obtain rfl:=os hp8
      exact me (And.intro rfl (And.intro rfl rfl)) (su5 rfl rfl rfl rfl rfl)
    ·rintro e s' H' ⟨rfl,rfl,rfl⟩
     refine C6<|C4<|s0<|oB h fun x10 hx10 h=>oB h fun x14 hx14 h=>A0 (C3 rfl) rfl<|A0 (B7 rfl rfl rfl) rfl<|A0 (I1 (rows:=List.map cI [a2.How]) rfl rfl (E0 (fun _=>rfl) _)) rfl<|B8 (rs:=[.b x10]) rfl rfl (A2 rfl (A2 rfl (A2 rfl B5))) ((E3 hx10).frz)<|qm rfl<|gp 7 62 (.b (x10 || (!(x6.Pawn == (a2.How != 0))))) 55 rfl rfl (fun hg11=>?_) (fun hg11=>?_) ?_
     ·exact nF rfl hg11 rfl<|nF rfl hg11 rfl<|nF rfl hg11 rfl<|nF rfl hg11 rfl<|nF rfl hg11 rfl<|nF rfl hg11 rfl<|A0 (D1 rfl hg11 rfl) rfl<|ge 7 (by rw [hg11]; rfl) rfl rfl
     ·exact gF rfl hg11<|A0 (C3 rfl) rfl<|gF rfl hg11<|A0 (B7 rfl rfl rfl) rfl<|gF rfl hg11<|A0 (C3 rfl) rfl<|gF rfl hg11<|A0 (B7 rfl rfl rfl) rfl<|gF rfl hg11<|A0 (P6 rfl rfl) rfl<|gF rfl hg11<|A0 (C8b rfl rfl) rfl<|A0 (D0 rfl hg11 rfl) rfl<|ge 7 (by rw [hg11]; rfl) rfl rfl
     refine qm rfl<|gp 6 69 (.b x14) 63 rfl rfl (fun hg12=>?_) (fun hg12=>?_) ?_
     ·obtain rfl:=os (bt hx14 hg12)
      exact nF rfl hg12 rfl<|nF rfl hg12 rfl<|nF rfl hg12 rfl<|nF rfl hg12 rfl<|K6 (F4 rfl (by rw [hg12]; rfl)) rfl<|A0 (D1 rfl hg12 rfl) rfl<|ge 6 rfl rfl rfl
     ·refine oB (bf hx14 hg12) fun x13 hx13 hx14=>?_
      obtain rfl:=os hx14
      exact gF rfl hg12<|qm rfl<|gF rfl hg12<|A0 (C3 rfl) rfl<|gF rfl hg12<|A0 (B7 rfl rfl rfl) rfl<|gF rfl hg12<|A0 (I1 (rows:=List.map cI [a2.Day]) rfl rfl (E0 (fun _=>rfl) _)) rfl<|gF rfl hg12<|B8 (rs:=[.b x13]) rfl rfl (A2 rfl (A2 rfl (A2 rfl B5))) ((E3 hx13).frz)<|A0 (D0 rfl hg12 rfl) rfl<|ge 6 rfl rfl rfl
     refine qm rfl<|es (ra5 rfl rfl rfl rfl rfl)<|wi h rfl (fun hc15 h=>?_) fun hc15 h=>?_
     ·refine s0<|qm rfl<|es (ra1 rfl)<|C7 ?_
      obtain rfl:=os h
      exact retq trivial (A9 rfl C0) (A5 rfl B9) (A3 A4 B1)
     ·refine s0<|oB h fun x19 hx19 h=>A0 (C3 rfl) rfl<|A0 (B7 rfl rfl rfl) rfl<|A0 (C3 rfl) rfl<|A0 (B7 rfl rfl rfl) rfl<|A0 (Q5 (v:=(.i (C0g x7.Needs x6.Looks))) rfl rfl rfl) rfl<|A0 (P6 rfl rfl) rfl<|qm rfl<|gp 15 92 (.b x19) 77 rfl rfl (fun hg16=>?_) (fun hg16=>?_) ?_
      ·obtain rfl:=os (bt hx19 hg16)
       exact nF rfl hg16 rfl<|nF rfl hg16 rfl<|nF rfl hg16 rfl<|nF rfl hg16 rfl<|nF rfl hg16 rfl<|nF rfl hg16 rfl<|nF rfl hg16 rfl<|nF rfl hg16 rfl<|nF rfl hg16 rfl<|nF rfl hg16 rfl<|nF rfl hg16 rfl<|nF rfl hg16 rfl<|K6 (F4 rfl (by rw [hg16]; rfl)) rfl<|nF rfl hg16 rfl<|A0 (D1 rfl hg16 rfl) rfl<|ge 15 rfl rfl rfl
      ·refine oB (bf hx19 hg16) fun x17 hx17 hx19=>oB hx19 fun x18 hx18 hx19=>?_
       obtain rfl:=os hx19
       exact gF rfl hg16<|qm rfl<|gF rfl hg16<|A0 (C3 rfl) rfl<|gF rfl hg16<|A0 (B7 rfl rfl rfl) rfl<|gF rfl hg16<|A0 (J8 rfl rfl) rfl<|gF rfl hg16<|A0 (C3 rfl) rfl<|gF rfl hg16<|A0 (A51 rfl rfl (B58 hx17)) rfl<|gF rfl hg16<|A0 (C3 rfl) rfl<|gF rfl hg16<|A0 (E9 (x:=(.fn (.func (isel a2.How 43 45 47)) [] [])) rfl hb0 (D0u hx17)) rfl<|gF rfl hg16<|A0 (E5 rfl rfl rfl) rfl<|gF rfl hg16<|A0 (E5 rfl rfl rfl) rfl<|gF rfl hg16<|A0 (C3 rfl) rfl<|gF rfl hg16<|A0 (B7 rfl rfl rfl) rfl<|gF rfl hg16<|B8 (rs:=[.b x18]) rfl rfl (A2 (D8 rfl) (A2 (D8 rfl) (A2 rfl B5))) (B3l (rs:=fun (y:Bool)=>[.b y]) (fun h=>(B09 h).frz) (fun h=>(B1b h).frz) (fun h=>(A4p h).frz) hx18)<|gF rfl hg16<|A0 (A5m rfl) rfl<|A0 (D0 rfl hg16 rfl) rfl<|ge 15 rfl rfl rfl
      refine qm rfl<|es (ra1 rfl)<|wi h rfl (fun hc20 h=>?_) fun hc20 h=>?_
      ·refine s0<|qm rfl<|es (ra1 rfl)<|C7 ?_
       obtain rfl:=os h
       exact retq trivial (A9 rfl C0) (A5 rfl B9) (A3 A4 B1)
      ·refine C9<|s0<|qm rfl<|es (ra1 rfl)<|C7 ?_
       obtain rfl:=os h
       exact retq trivial (A9 rfl C0) (A5 rfl B9) (A3 A4 B1)
end Pw
end
section
set_option maxRecDepth 100000
set_option maxHeartbeats 0
namespace Am
open Go
theorem B1l {N:Nat} {L M:A1} (h:grL N L = true) (k:grL N M = true):grL N (L++M) = true:= by
 unfold grL at h k ⊢
 rw [List.all_append,h,k]; rfl
theorem s0' {T:Tab} {s:A6} {H:A1} {c:Sc} {d:Bool} {live:List Nat} {ops:List AOper} {b:ACode} {Q:Ex→A6→A1→Prop} (h:J7 T c (H.length + 0) ops s (H++[]) [] (RG live (B82 T b c Q))):WP T (.seq (.region d 0 [] ops live) b) s H c Q:=Q9 (s0 h)
theorem B03 {T:Tab} {ac:ACode} {s:A6} {H H':A1} {c:Sc} {Q:Ex→A6→A1→Prop} (e:H = H') (h:WP T ac s H' c Q):WP T ac s H c Q:=e ▸ h
def B1w {α:Type} (T:Tab) (i:Nat) (fc:List AV) (sh:Nat→A1→α→AV→Prop) (pre:A1→Prop) (it:∀(σ ρ:Type),(α→σ→Option (σ ⊕ ρ))→σ→Option (σ ⊕ ρ)):Prop :=
 ∀ {σ ρ:Type} (Hm:σ ⊕ ρ→A1) (N:Nat),(∀ x,(Hm x).length = N)→(∀ x,pre (Hm x))→∀ (y:AV),y.bd N = true→y.cellsOf = [y]→∀ (body:α→σ→Option (σ ⊕ ρ)),
  (∀ {L:A1} {c:Sc} {x:α} {s:σ} {o:σ ⊕ ρ} {v:AV},O8 c (Hm (.inl s)++L) = true→grL N L = true→sh N L x v→body x s = some o→H6 T c (Hm (.inl s)++L) y [v] [.b o.isLeft] (Hm o++L)) →
  ∀ {s0:σ} {o:σ ⊕ ρ},it σ ρ body s0 = some o→∀ {c:Sc},O8 c (Hm (.inl s0)) = true→H6 T c (Hm (.inl s0)) (.fn (.func i) [] fc) [y] [] (Hm o)
section
variable {T:Tab} {s:A6} {H0:A1} {l:List AO} {c:Sc} {n0 N:Nat}
theorem A1l {H:A1} {a:Opd} {b o:Nat} {cs:List AV} {x:AV} (h:ev s a = some (.ptr b o)) (hl:hcells H b = some cs) (hd:(cs.drop o).head? = some x):One T c n0 s H (.load none a) x H :=
 ⟨0,by
  simp only [core,prim,h,E2,hl]
  cases hc:cs.drop o with
  | nil=>simp [hc] at hd
  | cons y t=>simp only [hc,List.head?_cons,Option.some.injEq] at hd; subst hd; rfl⟩
theorem A3e {H:A1} {a:Opd} {b o k:Nat} {cs ds:List AV} (h:ev s a = some (.ptr b o)) (hl:hcells H b = some cs) (hk:Nat.ble k (cs.drop o).length = true) (hd:(cs.drop o).take k = ds):One T c n0 s H (.load (some k) a) (.agg ds) H :=
 ⟨0,by simp only [core,prim,h,E2,hl,hk,if_true,hd]⟩
theorem C08 {α:Type} {f:α→List AV} {k j m:Nat} {p:Bool} {kk:IntKind} {x i:Opd} {e:List α} {n:Int} {a:α} (hN:H0.length = N) (h:ev s x = some (.asl (N + j) m)) (hi:ev s i = some (.lit (.int kk n))) (hl:l[j]? = some (.arr k p (e.map f))) (hm:e.length = m) (ha:idx e n = some a) :
  One T c n0 s (H0++l) (.idxS k x i) (.eptr (N + j) m n.toNat 0) (H0++l):= by subst hN; exact A21 h hi hl hm ha
theorem B48 {a x:Opd} {j n i o k kk:Nat} {rows:List (List AV)} {r ds:List AV} {v:AV} (hN:H0.length = N) (h:ev s a = some (.eptr (N + j) n i o)) (hv:ev s x = some v) (hp:v.cellsOf.all AV.plain = true) (hz:v.cellsOf.all AV.frz = true) (hl:l[j]? = some (.arr kk false rows)) (hn:rows.length = n) (hr:rows[i]? = some r)
  (hk:(Nat.beq v.cellsOf.length k && Nat.ble (o + k) r.length) = true) (hd:splice r o v.cellsOf = ds) :
  One T c n0 s (H0++l) (.store k a x) (.tup []) (H0++l.set j (.arr kk false (rows.set i ds))):= by subst hN; exact A8c h hv hp hz hl hn hr hk hd
end
end Am
namespace Pw
open Go Am Go.Proofs.Ytjpjdglddmhplaa.Cd
def plx (t:PaShow) (days:List Int) (n:Int):Option PaUse :=
 (C6y n (List.length days:Int)).bind fun q=>(C6y q 3).bind fun g=>(C6z q 3).bind fun h=>(C6z n (List.length days:Int)).bind fun r=>(idx days r).bind fun d=>some ⟨g,h,d⟩
section
variable {σ ρ:Type}
def B98 (t:PaShow) (days:List Int) (figure:Int) (rec:Int→List PaUse→σ→Option (List PaUse × (σ ⊕ ρ))) (x:Int × List PaUse × σ):Option ((Int × List PaUse × σ) ⊕ ((List PaUse × ρ) ⊕ (List PaUse × σ))) :=
 if (decide (x.1 < w64 (w64 ((List.length t.Gowns:Int) * 3) * (List.length days:Int)))) = true then
  (plx t days x.1).bind fun u =>
  (idx x.2.1 figure).bind fun _ =>
  (X8 (shw t days) figure u).bind fun e =>
  (if (e != 0) = true then some true else (A4f (X9 x.2.1 figure u) figure).bind fun z=>some z).bind fun g =>
  if g = true then some (.inl (w64 (x.1 + 1),X9 x.2.1 figure u,x.2.2))
  else (rec (w64 (figure + 1)) (X9 x.2.1 figure u) x.2.2).bind fun y =>
   match y with
   | (p,.inl s')=>some (.inl (w64 (x.1 + 1),p,s'))
   | (p,.inr r)=>some (.inr (.inl (p,r)))
 else some (.inr (.inr (x.2.1,x.2.2)))
def B46 (t:PaShow) (days:List Int) (body:List PaUse→σ→Option (σ ⊕ ρ)):Nat→Int→List PaUse→σ→Option (List PaUse × (σ ⊕ ρ))
 | 0,_,_,_=>none
 | k + 1,figure,p,s =>
  if (figure == (List.length p:Int)) = true then (body p s).bind fun o=>some (p,o)
  else (loop (B98 t days figure (B46 t days body k)) (0,p,s)).bind fun o =>
   match o with
   | .inl (p,r)=>some (p,.inr r)
   | .inr (p,s)=>(A1z).bind fun b=>(idx p figure).bind fun _=>B46 t days body k (w64 (figure + 1)) (X9 p figure b) s
end
def B1s (t:PaShow) (days:List Int) (σ ρ:Type) (body:List PaUse→σ→Option (σ ⊕ ρ)) (s:σ):Option (σ ⊕ ρ) :=
 (B7z 24 (List.length t.Figures:Int) (PaUse.mk 0 0 0)).bind fun p=>(B46 t days body 64 0 p s).bind fun y=>some y.2
def caps (N bS:Nat):List AV:=[.ptr (N + 3) 0,.ptr (N + 0) 0,.ptr bS 0,.ptr (N + 4) 0]
def L0 (N bS:Nat) (y:AV) (p:List PaUse):List AO:=[.cells [y],.arr 3 false (p.map A8),.arr 3 false [],.cells [.asl (N + 1) p.length],.cells [.fn (.func 78) [] (caps N bS)]]
def shP (N:Nat) (L:A1) (x:List PaUse) (v:AV):Prop:=∃ j,v = .asl (N + j) x.length∧L[j]? = some (.arr 3 false (x.map A8))
theorem C1h {l:List PaUse} {i:Int} {u:PaUse}:(l.map A8).set i.toNat (A8 u) = (X9 l i u).map A8:=A8b l i u
section
variable {σ ρ:Type} {t:PaShow} {days:List Int} {Hm:σ ⊕ ρ→A1} {N bS b:Nat} {y:AV} {body:List PaUse→σ→Option (σ ⊕ ρ)}
theorem C07 (hN:∀x,(Hm x).length = N) (h1:∀x,hcells (Hm x) bS = some [.ptr b 0]) (ht:∀x,hcells (Hm x) b = some (A0j t days))
  (hy:∀{L:A1} {c:Sc} {p:List PaUse} {s:σ} {o:σ ⊕ ρ} {v:AV},O8 c (Hm (.inl s)++L) = true→grL N L = true→shP N L p v→body p s = some o→H6 tab c (Hm (.inl s)++L) y [v] [.b o.isLeft] (Hm o++L)) :
  ∀ (k:Nat) (figure:Int) (p:List PaUse) (s:σ) (x:List PaUse × (σ ⊕ ρ)),B46 t days body k figure p s = some x→∀ (M:A1) (c:Sc),grL N M = true→O8 c (Hm (.inl s)++(L0 N bS y p++M)) = true →
   H6 tab c (Hm (.inl s)++(L0 N bS y p++M)) (.fn (.func 78) [] (caps N bS)) [.i figure] [.b x.2.isLeft] (Hm x.2++(L0 N bS y x.1++M))
 | 0,_,_,_,_,h,_,_,_,_=>by cases h
 | k + 1,figure,p,s,x,h,M,c,hgr,hsc=>by
  have ih:=C07 hN h1 ht hy k
  unfold B46 at h
  have hl5:∀z p,(Hm z++(L0 N bS y p++M)).length = N + (M.length + 5):=fun z p=>by rw [List.length_append,hN,List.length_append]; simp only [L0,List.length_cons,List.length_nil]; omega
  have hb1:∀z p,hcells (Hm z++(L0 N bS y p++M)) bS = some [.ptr b 0]:=fun z p=>D3 (h1 z) _
  have hbt:∀z p,hcells (Hm z++(L0 N bS y p++M)) b = some (A0j t days):=fun z p=>D3 (ht z) _
  have q0:∀z p,hcells (Hm z++(L0 N bS y p++M)) (N + 0) = some [y]:=fun z p=>by rw [← hN z]; exact D5 rfl
  have q3:∀z p,hcells (Hm z++(L0 N bS y p++M)) (N + 3) = some [.asl (N + 1) p.length]:=fun z p=>by rw [← hN z]; exact D5 rfl
  have q4:∀z p,hcells (Hm z++(L0 N bS y p++M)) (N + 4) = some [.fn (.func 78) [] (caps N bS)]:=fun z p=>by rw [← hN z]; exact D5 rfl
  have qa:∀z p,harr (Hm z++(L0 N bS y p++M)) (N + 1) = some (3,false,p.map A8):=fun z p=>by rw [← hN z]; exact L4 rfl
  have hbdS:bS < N:= by have:=A1i (h1 (.inl s)); rwa [hN] at this
  have htk:∀z p' Y,(Hm z++(L0 N bS y p'++M)++Y).take (Hm (.inl s)++(L0 N bS y p++M)).length = Hm z++(L0 N bS y p'++M):=fun z p' Y=>by rw [hl5,← hl5 z p']; exact List.take_left
  have hK:∀z p',(Hm z++(L0 N bS y p'++M)).length = (Hm (.inl s)++(L0 N bS y p++M)).length:=fun z p'=>by rw [hl5,hl5]
  refine V8 (aq:=[.i figure,.ptr (N + 3) 0,.ptr (N + 0) 0,.ptr bS 0,.ptr (N + 4) 0]) rfl rfl rfl (Q9 ?_)
  refine s0<|qm rfl<|es (ra5 rfl rfl rfl rfl rfl)<|C6<|s0<|qm rfl<|A0 (E9 rfl (q3 _ _) rfl) rfl<|A0 (A9n (SlV.asl _ _ _ (qa (.inl s) p)) rfl) rfl<|A0 (I3 rfl rfl) rfl<|es (ra6 rfl rfl rfl rfl rfl rfl)<|wi h rfl (fun hc h=>?_) fun hc h=>?_
  ·refine oB h fun o ho h=>?_
   cases h
   have hcall:H6 tab ⟨(Hm (.inl s)++(L0 N bS y p++M)).length,c.cur :: c.outer⟩ (Hm (.inl s)++(L0 N bS y p++M)++[]) y [.asl (N + 1) p.length] [.b o.isLeft] (Hm o++(L0 N bS y p++M)++[]):= by
    rw [List.append_nil,List.append_nil]
    exact hy (A5j hsc (Nat.le_refl _) (Nat.le_refl _)) (B1l rfl hgr) ⟨1,rfl,rfl⟩ ho
   refine s0<|A0 (E9 rfl (q0 _ _) rfl) rfl<|A0 (E9 rfl (q3 _ _) rfl) rfl<|N2 (Z5 rfl rfl hcall rfl) rfl<|qm rfl<|es (ra1 rfl)<|C7 ?_
   show A4r _ _ _ _ .ret _ _
   exact B3i trivial (A9 rfl C0) (A5 (v:=.lit (.bool o.isLeft)) rfl B9) (A3 A4 B1) (htk _ _ _)
  ·refine oB h fun o ho h=>?_
   have hKN:∀z p',(Hm z++(L0 N bS y p'++M)).length = N + (M.length + 5):=hl5
   refine C9<|C6<|s0<|A0 (E9 rfl (hb1 _ _) rfl) rfl<|A0 (J8 rfl rfl) rfl<|A0 (C3 rfl) rfl<|A0 (C3 rfl) rfl<|A0 (E9 (x:=.seq 8 (List.map C1 t.Gowns)) rfl (hbt _ _) rfl) rfl<|A0 (I6 (f:=C1) rfl) rfl<|A0 (C0h rfl rfl) rfl<|A0 (E9 rfl (hb1 _ _) rfl) rfl<|A0 (J8 rfl rfl) rfl<|A0 (C3 rfl) rfl<|A0 (E9 (x:=.seq 1 (List.map cI days)) rfl (hbt _ _) rfl) rfl<|A0 (I6 (f:=cI) rfl) rfl<|A0 (C0h rfl rfl) rfl<|qm rfl<|es (ra6 rfl rfl rfl rfl rfl rfl)<|C4 ?_
   refine X2 (B03 (List.append_nil _) (B3x (γ:=Unit) (live:=[0,1,3,4,28,29]) (body:=B98 t days figure (B46 t days body k)) (fun x=>[(0,.i figure),(1,.ptr (N + 3) 0),(3,.ptr bS 0),(4,.ptr (N + 4) 0),(28,.i (w64 (w64 ((List.length t.Gowns:Int) * 3) * (List.length days:Int)))),(29,.i x.1)]) (fun _ x=>Hm (.inl x.2.2)++(L0 N bS y x.2.1++M)) (N + (M.length + 5))
    (fun r e s' H'=>match r with
     | .inl r=>e = .ret∧s' = [(6,.b false)]∧H'.take (N + (M.length + 5)) = Hm (.inr r.2)++(L0 N bS y r.1++M)
     | .inr r=>e = .exit 0∧s' = [(0,.i figure),(1,.ptr (N + 3) 0),(4,.ptr (N + 4) 0)]∧H' = Hm (.inl r.2)++(L0 N bS y r.1++M)) (fun _ x=>hl5 _ _) (fun _=>rfl) (by decide) (fun x _=>?_) ?_ ho ())) ?_
   ·refine bdc A4 (bdc ?_ (bdc ?_ (bdc ?_ (bdc A4 (bdc A4 bdn)))))
    all_goals (simp only [AV.bd]; exact Nat.ble_eq_true_of_le (by omega))
   ·intro _ x o' hb
    obtain ⟨n,p1,s1⟩:=x
    unfold B98 at hb
    simp only at hb
    refine s0'<|A0 (L5 rfl rfl) rfl<|es (ra7 rfl rfl rfl rfl rfl rfl rfl)<|C6<|wi hb rfl (fun hc hb=>?_) fun hc hb=>?_
    ·refine oB hb fun u hu hb=>oB hb fun w hw hb=>oB hb fun e he hb=>oB hb fun g hg hb=>?_
     refine oB hu fun q hq hu=>oB hu fun ug hug hu=>oB hu fun uh huh hu=>oB hu fun ur hur hu=>oB hu fun ud hud hu=>?_
     obtain rfl:=os hu
     have hKe:=hl5 (.inl s1) p1
     have hu8:∀z p',hcells (Hm z++(L0 N bS y p'++(M++[AO.cells (A8 ⟨ug,uh,ud⟩)]))) ((Hm (.inl s1)++(L0 N bS y p1++M)).length + (0 + 0)) = some (A8 ⟨ug,uh,ud⟩):=fun z p'=>by
      rw [show Hm z++(L0 N bS y p'++(M++[AO.cells (A8 ⟨ug,uh,ud⟩)])) = (Hm z++(L0 N bS y p'++M))++[AO.cells (A8 ⟨ug,uh,ud⟩)] by simp only [List.append_assoc],hKe,← hl5 z p']
      exact D5 rfl
     have hset1:∀z Y,Hm z++(L0 N bS y p1++Y).set 1 (.arr 3 false ((p1.map A8).set figure.toNat (A8 ⟨ug,uh,ud⟩))) = Hm z++(L0 N bS y (X9 p1 figure ⟨ug,uh,ud⟩)++Y):=fun z Y=>by
      rw [C1h]
      have:(X9 p1 figure (⟨ug,uh,ud⟩:PaUse)).length = p1.length:=S9 _ _ _
      simp only [L0,this]; rfl
     have hb1':∀z p' Y,hcells (Hm z++(L0 N bS y p'++Y)) bS = some [.ptr b 0]:=fun z p' Y=>D3 (h1 z) _
     have hbt':∀z p' Y,hcells (Hm z++(L0 N bS y p'++Y)) b = some (A0j t days):=fun z p' Y=>D3 (ht z) _
     have q3':∀z p' Y,hcells (Hm z++(L0 N bS y p'++Y)) (N + 3) = some [.asl (N + 1) p'.length]:=fun z p' Y=>by rw [← hN z]; exact D5 rfl
     have q4':∀z p' Y,hcells (Hm z++(L0 N bS y p'++Y)) (N + 4) = some [.fn (.func 78) [] (caps N bS)]:=fun z p' Y=>by rw [← hN z]; exact D5 rfl
     have qa':∀z p' Y,harr (Hm z++(L0 N bS y p'++Y)) (N + 1) = some (3,false,p'.map A8):=fun z p' Y=>by rw [← hN z]; exact L4 rfl
     have htk2:∀z p' Y,(Hm z++(L0 N bS y p'++(M++Y))).take (N + (M.length + 5)) = Hm z++(L0 N bS y p'++M):=fun z p' Y=>by
      rw [show Hm z++(L0 N bS y p'++(M++Y)) = (Hm z++(L0 N bS y p'++M))++Y by simp only [List.append_assoc],← hl5 z p']
      exact List.take_left
     refine C9<|C6<|C4<|s0<|qm rfl<|qm rfl<|es (ra7 rfl rfl rfl rfl rfl rfl rfl)<|sg 0 rfl<|qm rfl<|L6 [0] (V1 [0] rfl J2 rfl rfl) (seen0 rfl) (E9 rfl (hb1 _ _) rfl) rfl<|A0 (J8 rfl rfl) rfl<|A0 (C3 rfl) rfl<|L6 [0] (V1 [0] rfl J2 rfl rfl) (seen0 rfl) (E9 (x:=.seq 1 (List.map cI days)) rfl (hbt _ _) rfl) rfl<|L6 [0] (V1 [0] rfl J2 rfl rfl) (seen0 rfl) (I6 (f:=cI) rfl) rfl<|A0 (C4i rfl rfl hq) rfl<|A0 (C4i rfl rfl hug) rfl<|qm rfl<|L6 [0] (V1 [0] rfl J2 rfl rfl) (seen0 rfl) (E9 rfl (hb1 _ _) rfl) rfl<|A0 (J8 rfl rfl) rfl<|A0 (C3 rfl) rfl<|L6 [0] (V1 [0] rfl J2 rfl rfl) (seen0 rfl) (E9 (x:=.seq 1 (List.map cI days)) rfl (hbt _ _) rfl) rfl<|L6 [0] (V1 [0] rfl J2 rfl rfl) (seen0 rfl) (I6 (f:=cI) rfl) rfl<|A0 (C4i rfl rfl hq) rfl<|A0 (C7j rfl rfl huh) rfl<|L6 [0] (V1 [0] rfl J2 rfl rfl) (seen0 rfl) (E9 rfl (hb1 _ _) rfl) rfl<|A0 (J8 rfl rfl) rfl<|A0 (C3 rfl) rfl<|L6 [0] (V1 [0] rfl J2 rfl rfl) (seen0 rfl) (E9 (x:=.seq 1 (List.map cI days)) rfl (hbt _ _) rfl) rfl<|qm rfl<|L6 [0] (V1 [0] rfl J2 rfl rfl) (seen0 rfl) (E9 rfl (hb1 _ _) rfl) rfl<|A0 (J8 rfl rfl) rfl<|A0 (C3 rfl) rfl<|L6 [0] (V1 [0] rfl J2 rfl rfl) (seen0 rfl) (E9 (x:=.seq 1 (List.map cI days)) rfl (hbt _ _) rfl) rfl<|L6 [0] (V1 [0] rfl J2 rfl rfl) (seen0 rfl) (I6 (f:=cI) rfl) rfl<|A0 (C7j rfl rfl hur) rfl<|L6 [0] (V1 [0] rfl J2 rfl rfl) (seen0 rfl) (J0 (f:=cI) rfl rfl hud) rfl<|L6 [0] (V1 [0] rfl J2 rfl rfl) (seen0 rfl) (A1j (x:=.i ud) rfl rfl) rfl<|A0 (O1 (cs:=A8 ⟨ug,uh,ud⟩) rfl rfl) rfl<|A0 G8 rfl<|M4 (E4 (ds:=A8 ⟨ug,uh,ud⟩) rfl rfl rfl rfl (D9 rfl) rfl) rfl<|es (ra7 rfl rfl rfl rfl rfl rfl rfl)<|B03 (show _ = Hm (.inl s1)++(L0 N bS y p1++(M++[AO.cells (A8 ⟨ug,uh,ud⟩)])) by simp) ?_
     refine C6<|s0<|A0 (A1l (x:=.asl (N + 1) p1.length) rfl (q3' _ _ _) rfl) rfl<|qm rfl<|A0 (A3e (ds:=A8 ⟨ug,uh,ud⟩) rfl (hu8 _ _) rfl rfl) rfl<|A0 (C08 (f:=A8) (j:=1) (hN _) rfl rfl rfl rfl hw) rfl<|M4 (B48 (ds:=A8 ⟨ug,uh,ud⟩) (j:=1) (hN _) rfl rfl rfl rfl rfl (List.length_map _) (A2d hw) rfl rfl) rfl ?_
     rw [hset1]
     refine es (ra7 rfl rfl rfl rfl rfl rfl rfl)<|s0<|A0 (A1l rfl (hb1' _ _ _) rfl) rfl<|qm rfl<|A0 (A3e (ds:=A8 ⟨ug,uh,ud⟩) rfl (hu8 _ _) rfl rfl) rfl<|B8 (rs:=[.i e]) rfl rfl (A2 rfl (A2 rfl (A2 (D8 rfl) B5))) ((A0r (a0:=shw t days) (hbt' _ _ _) he).frz)<|A0 (P6 rfl rfl) rfl<|qm rfl<|gp 4 75 (.b g) 71 rfl rfl (fun hc1=>?_) (fun hc1=>?_) ?_
     ·obtain rfl:=os (bt hg hc1)
      exact nF rfl hc1 rfl<|nF rfl hc1 rfl<|K6 (F4 rfl (by rw [hc1]; rfl)) rfl<|A0 (D1 rfl hc1 rfl) rfl<|ge 4 rfl rfl rfl
     ·refine oB (bf hg hc1) fun z hz hg=>?_
      obtain rfl:=os hg
      exact gF rfl hc1<|A0 (A1l (x:=.asl (N + 1) (X9 p1 figure ⟨ug,uh,ud⟩).length) rfl (q3' _ _ _) rfl) rfl<|gF rfl hc1<|qm rfl<|gF rfl hc1<|N2 (R3 (rs:=[.b z]) rfl rfl ((A49 (SlV.asl _ _ _ (qa' _ _ _)) (fun _ _ _ _ hh=>by cases hh) rfl hz).frz)) rfl<|A0 (D0 rfl hc1 rfl) rfl<|ge 4 rfl rfl rfl
     ·refine es (ra7 rfl rfl rfl rfl rfl rfl rfl)<|wi hb rfl (fun hc2 hb=>?_) fun hc2 hb=>?_
      ·cases hb
       refine K4<|r0<|A0 (G6 rfl rfl) rfl<|qm rfl<|en (ra6 rfl rfl rfl rfl rfl rfl) ?_
       exact ⟨rfl,su6 rfl rfl rfl rfl rfl rfl,(),htk2 _ _ _⟩
      ·refine oB hb fun x1 hx1 hb=>?_
       have hnext:∀c',O8 c' (Hm (.inl s1)++(L0 N bS y (X9 p1 figure ⟨ug,uh,ud⟩)++(M++[AO.cells (A8 ⟨ug,uh,ud⟩)]))) = true→H6 tab c' (Hm (.inl s1)++(L0 N bS y (X9 p1 figure ⟨ug,uh,ud⟩)++(M++[AO.cells (A8 ⟨ug,uh,ud⟩)]))) (.fn (.func 78) [] (caps N bS)) [.i (w64 (figure + 1))] [.b x1.2.isLeft] (Hm x1.2++(L0 N bS y x1.1++(M++[AO.cells (A8 ⟨ug,uh,ud⟩)]))):=fun c' hc'=>ih _ _ _ _ hx1 (M++[AO.cells (A8 ⟨ug,uh,ud⟩)]) c' (B1l hgr rfl) hc'
       have hlen6:(Hm (.inl s1)++(L0 N bS y (X9 p1 figure ⟨ug,uh,ud⟩)++(M++[AO.cells (A8 ⟨ug,uh,ud⟩)]))).length = N + (M.length + 5) + 1:= by
        rw [show Hm (.inl s1)++(L0 N bS y (X9 p1 figure ⟨ug,uh,ud⟩)++(M++[AO.cells (A8 ⟨ug,uh,ud⟩)])) = (Hm (.inl s1)++(L0 N bS y (X9 p1 figure ⟨ug,uh,ud⟩)++M))++[AO.cells (A8 ⟨ug,uh,ud⟩)] by simp only [List.append_assoc],List.length_append,hl5]; rfl
       refine C9<|s0<|A0 (A1l rfl (q4' _ _ _) rfl) rfl<|qm rfl<|A0 (G6 rfl rfl) rfl<|N2 (Z5 rfl rfl (hnext _ ?_) rfl) rfl<|A0 (B75 rfl rfl) rfl<|es (ra7 rfl rfl rfl rfl rfl rfl rfl) ?_
       ·exact A5j (c:=⟨(Hm (.inl s)++(L0 N bS y p++M)).length,c.cur :: c.outer⟩) (H:=Hm (.inl s)++(L0 N bS y p++M)) (A5j hsc (Nat.le_refl _) (Nat.le_refl _)) (by rw [hlen6,hl5]; omega) (by rw [hlen6]; omega)
       ·obtain ⟨p2,x2⟩:=x1
        cases x2 with
        | inl s2 =>
         cases hb
         refine N6 rfl rfl<|C9<|r0<|A0 (G6 rfl rfl) rfl<|qm rfl<|en (ra6 rfl rfl rfl rfl rfl rfl) ?_
         exact ⟨rfl,su6 rfl rfl rfl rfl rfl rfl,(),htk2 _ _ _⟩
        | inr r2 =>
         cases hb
         refine M3 rfl rfl<|s0<|qm rfl<|es (ra1 rfl)<|C7 ?_
         exact ⟨rfl,_,Sub.refl _,rfl,rfl,htk2 _ _ _⟩
    ·refine K4 ?_
     cases hb
     exact ⟨rfl,_,su3 rfl rfl rfl,rfl,rfl,List.append_nil _⟩
   ·intro e s' H' q
    obtain ⟨_,q⟩:=q
    rcases o with r | r
    ·obtain ⟨p1,r⟩:=r
     obtain ⟨rfl,rfl,q⟩:=q
     cases h
     show A4r _ _ _ _ .ret _ _
     exact B3i trivial (A9 rfl C0) (A5 (v:=.lit (.bool false)) rfl B9) (A3 A4 B1) (by rw [hl5]; exact q)
    ·obtain ⟨p1,s1⟩:=r
     obtain ⟨rfl,rfl,rfl⟩:=q
     refine oB h fun bb hbb h=>oB h fun w hw h=>?_
     have hset1:Hm (.inl s1)++(L0 N bS y p1++M).set 1 (.arr 3 false ((p1.map A8).set figure.toNat (A8 bb))) = Hm (.inl s1)++(L0 N bS y (X9 p1 figure bb)++M):= by
      rw [C1h]
      have:(X9 p1 figure bb).length = p1.length:=S9 _ _ _
      simp only [L0,this]; rfl
     have hnext:∀c',O8 c' (Hm (.inl s1)++(L0 N bS y (X9 p1 figure bb)++M)) = true→H6 tab c' (Hm (.inl s1)++(L0 N bS y (X9 p1 figure bb)++M)) (.fn (.func 78) [] (caps N bS)) [.i (w64 (figure + 1))] [.b x.2.isLeft] (Hm x.2++(L0 N bS y x.1++M)):=fun c' hc'=>ih _ _ _ _ h M c' hgr hc'
     refine s0<|A0 (A1l (x:=.asl (N + 1) p1.length) rfl (q3 _ _) rfl) rfl<|qm rfl<|S3 (rs:=[(.agg (A8 bb))]) rfl rfl A0t B5 ((A1m hbb).frz)<|A0 (C08 (f:=A8) (j:=1) (hN _) rfl rfl rfl rfl hw) rfl<|M4 (B48 (ds:=A8 bb) (j:=1) (hN _) rfl rfl rfl rfl rfl (List.length_map _) (A2d hw) rfl rfl) rfl ?_
     rw [hset1]
     refine es (ra2 rfl rfl)<|s0<|A0 (A1l rfl (q4 _ _) rfl) rfl<|qm rfl<|A0 (G6 rfl rfl) rfl<|N2 (Z5 rfl rfl (hnext _ ?_) rfl) rfl<|qm rfl<|es (ra1 rfl)<|C7 ?_
     ·exact A5j hsc (by rw [hl5,hl5]; exact Nat.le_refl _) (by rw [hl5,hl5]; exact Nat.le_refl _)
     ·show A4r _ _ _ _ .ret _ _
      exact B3i trivial (A9 rfl C0) (A5 (v:=.lit (.bool x.2.isLeft)) rfl B9) (A3 A4 B1) (by rw [hl5,← hl5 x.2 x.1]; exact List.take_length)
end
theorem C42 {t:PaShow} {days:List Int} {bS b:Nat}:B1w tab 77 [.ptr bS 0] shP (fun H=>hcells H bS = some [.ptr b 0]∧hcells H b = some (A0j t days)) (B1s t days):= by
 intro σ ρ Hm N hN hpre y hyb hyc body hy a0 o ho c hc
 unfold B1s at ho
 refine oB ho fun p0 hp0 ho=>oB ho fun x0 hx0 ho=>?_
 obtain rfl:=os ho
 have h1:∀x,hcells (Hm x) bS = some [.ptr b 0]:=fun x=>(hpre x).1
 have ht:∀x,hcells (Hm x) b = some (A0j t days):=fun x=>(hpre x).2
 have e:=hN (.inl a0)
 have hl5:∀x p,(Hm x++L0 N bS y p).length = N + 5:=fun x p=>by rw [List.length_append,hN]; rfl
 have htk:∀x p,(Hm x++L0 N bS y p).take (Hm (.inl a0)).length = Hm x:=fun x p=>by rw [e,← hN x]; exact List.take_left
 have hcall:∀c',O8 c' (Hm (.inl a0)++L0 N bS y p0) = true→H6 tab c' (Hm (.inl a0)++L0 N bS y p0) (.fn (.func 78) [] (caps N bS)) [.i 0] [.b x0.2.isLeft] (Hm x0.2++L0 N bS y x0.1):=fun c' hc'=>by
  have:=C07 hN h1 ht hy 64 0 p0 a0 x0 hx0 [] c' rfl (by rw [List.append_nil]; exact hc')
  rwa [List.append_nil,List.append_nil] at this
 have key:WP tab c77 [(0,y),(1,.ptr bS 0)] (Hm (.inl a0)++[]) ⟨(Hm (.inl a0)).length,c.cur :: c.outer⟩ (A4r (Hm (.inl a0)) (Hm x0.2) [] []):= by
  subst e
  refine sg 0 rfl<|A0 (F9 rfl hyc rfl) rfl<|es (ra2 rfl rfl)<|sg 1 rfl<|A0 (E9 rfl (h1 _) rfl) rfl<|A0 (J8 rfl rfl) rfl<|A0 (C3 rfl) rfl<|A0 (C3 rfl) rfl<|A0 (E9 (x:=.seq 4 (List.map B3 t.Figures)) rfl (ht _) rfl) rfl<|A0 (I6 (f:=B3) rfl) rfl<|A0 (B49 (f:=A8) (zt:=PaUse.mk 0 0 0) rfl rfl rfl hp0) rfl<|A0 B70 rfl<|M4 (E4 (ds:=[.asl ((Hm (.inl a0)).length + 1) p0.length]) rfl rfl rfl rfl (W7 ?_) rfl) rfl<|es (ra3 rfl rfl rfl)<|sg 4 rfl<|A0 G8 rfl<|es (ra4 rfl rfl rfl rfl)<|s0<|A0 (A0q rfl rfl) rfl<|M4 (E4 (ds:=[.fn (.func 78) [] (caps (Hm (.inl a0)).length bS)]) rfl rfl rfl rfl (W7 ?_) rfl) rfl<|es (ra1 rfl)<|r0<|A0 (B7 (x:=.fn (.func 78) [] (caps (Hm (.inl a0)).length bS)) rfl rfl rfl) rfl<|N2 (N4 (rs:=[.b x0.2.isLeft]) rfl rfl (A2 rfl B5) (hcall _ ?_) rfl) rfl<|en .n ?_
  ·exact Nat.le_add_right _ _
  ·exact Nat.le_add_right _ _
  ·exact A5j hc (by rw [hl5]; omega) (by rw [hl5]; omega)
  ·show A4r _ _ _ _ .normal _ _
   exact B3i trivial rfl rfl rfl (htk _ _)
 rw [List.append_nil] at key
 exact V8 (aq:=[y,.ptr bS 0]) rfl rfl rfl key
end Pw
end
section
set_option maxRecDepth 100000
namespace Am
open Go
theorem B6o {c:Sc} {H H':A1} (h:O8 c H = true) (hl:H.length≤H'.length):O8 c H' = true:= by
 unfold O8 at h ⊢
 rw [List.all_eq_true] at h ⊢
 intro B hB
 have:=Nat.le_of_ble_eq_true (h B hB)
 exact Nat.ble_eq_true_of_le (by omega)
theorem B7n {M N:Nat} {L:A1} (hMN:N≤M) (h:grL M L = true):grL N L = true:= by
 unfold grL at h ⊢
 rw [List.all_eq_true] at h ⊢
 intro o ho
 have:=h o ho
 rw [List.all_eq_true] at this ⊢
 intro b hb
 have:=Nat.le_of_ble_eq_true (this b hb)
 exact Nat.ble_eq_true_of_le (by omega)
theorem A3c {N:Nat} {o:AO} {L:A1} (ho:o.anc = []) (h:grL N L = true):grL N (o :: L) = true:= by
 unfold grL at h ⊢
 rw [List.all_cons,h,ho]; rfl
theorem C2u {H:A1} {n K:Nat} {o:AO}:(hset H K o).take n = hset (H.take n) K o:= by unfold hset; rw [List.take_set]
section
variable {T:Tab} {s:A6} {H:A1} {c:Sc} {Q:Ex→A6→A1→Prop}
def D1y {σ ρ:Type} (Hs:σ→A1) (Hx:ρ→A1) (K:Nat) (ex:ρ→Ex) (b:AO) (L:A1) (o:σ ⊕ ρ) (e:Ex) (_s:A6) (H2:A1):Prop :=
 match o with
  | .inl s'=>e = .normal∧H2.take (K + 1 + L.length) = Hs s'++b :: L
  | .inr r=>e = ex r∧H2.take (K + 1 + L.length) = Hx r++b :: L
def D1x (T:Tab) (G:A1) (b0 b1:AO) (bd:ACode) (c:Sc) (Q:Ex→A6→A1→Prop) (e:Ex) (s1:A6) (H1:A1):Prop :=
 e = .normal∧∃ L1,H1 = G++b0 :: L1∧WP T bd s1 (G++b1 :: L1) c Q
theorem A8v {σ ρ α:Type} {f:Opd} {p i K:Nat} {live:List Nat} {aq bd:ACode} {fc:List AV} {sh:Nat→A1→α→AV→Prop} {pre:A1→Prop} {it:∀(σ ρ:Type),(α→σ→Option (σ ⊕ ρ))→σ→Option (σ ⊕ ρ)} {s0:σ} {o:σ ⊕ ρ} {body:α→σ→Option (σ ⊕ ρ)}
  (hit:B1w T i fc sh pre it) (sl:A6) (Hs:σ→A1) (Hx:ρ→A1) (ex:ρ→Ex) (h:it σ ρ body s0 = some o) (hex:∀r,(ex r).out = true)
  (hf:ev s f = some (.fn (.func i) [] fc)) (hs:∀S,Sub s S→restrict S live = sl) (hH:Hs s0 = H) (hk:∀x,(Hs x).length = K) (hkx:∀x,(Hx x).length = K)
  (hpre:(∀ x b,pre (Hs x++[b]))∧∀ x b,pre (Hx x++[b])) (hc:O8 c H = true)
  (hb:∀c x s o L v,O8 ⟨K + 1 + L.length,c⟩ (Hs s++.dead :: L) = true→grL (K + 1) L = true→sh (K + 1) L x v→body x s = some o→∀ y0 y1:AO,y0.anc = []→y1.anc = []→WP T aq ((p,v) :: sl) (Hs s++y0 :: L) ⟨K + 1 + L.length,c⟩ (D1x T (Hs s) y0 y1 bd ⟨K + 1 + L.length,c⟩ (D1y Hs Hx K ex y1 L o)))
  (kont:match o with | .inl s'=>Q .normal s (Hs s'++[.dead]) | .inr r=>Q (ex r) s (Hx r++[.dead])):WP T (.rangeFunc f [p] live aq bd) s H c Q:= by
 subst hH
 intro S hS
 let Hm:σ ⊕ ρ→A1:=fun o=>match o with
  | .inl x=>Hs x++[.loop 0 sl [p] aq bd false none]
  | .inr r=>Hx r++[.loop 0 sl [p] aq bd false (some (ex r))]
 have hN:∀x,(Hm x).length = K + 1:= by
  intro x
  cases x with
  | inl x=>simp [Hm,hk]
  | inr x=>simp [Hm,hkx]
 have hap:∀(A:List AO) (b:AO) (L:A1),A++[b]++L = A++b :: L:=fun A b L=>by simp
 have gat:∀(A:A1) (b:AO) (L:A1),A.length = K→hget (A++b :: L) K = some b:=fun A b L hA=>by
  unfold hget; rw [← hA,List.getElem?_append_right (Nat.le_refl _),Nat.sub_self]; rfl
 have sat:∀(A:A1) (b b':AO) (L:A1),A.length = K→hset (A++b :: L) K b' = A++b' :: L:=fun A b b' L hA=>by
  unfold hset; rw [← hA,List.set_append_right _ _ (Nat.le_refl _),Nat.sub_self]; rfl
 have hy:∀{L:A1} {c:Sc} {x:α} {s:σ} {o:σ ⊕ ρ} {v:AV},O8 c (Hm (.inl s)++L) = true→grL (K + 1) L = true→sh (K + 1) L x v→body x s = some o→H6 T c (Hm (.inl s)++L) (.fn (.yield K) [] []) [v] [.b o.isLeft] (Hm o++L):= by
  intro L c x s o v hsc hgr hsh hbo
  have hml:∀b,(Hs s++b :: L).length = K + 1 + L.length:=fun b=>by simp [hk]; omega
  have hm:Hm (.inl s)++L = Hs s++.loop 0 sl [p] aq bd false none :: L:=hap _ _ _
  have hsc2:O8 ⟨K + 1 + L.length,c.cur :: c.outer⟩ (Hs s++.dead :: L) = true:= by
   rw [hm] at hsc
   exact A5j (c:=c) hsc (by rw [hml,hml]; exact Nat.le_refl _) (by rw [hml]; exact Nat.le_refl _)
  obtain ⟨e1,S1,s1,H1,r1,q1,rfl,L1,rfl,hw⟩:=hb (c.cur :: c.outer) x s o L v hsc2 hgr hsh hbo (.loop 0 sl [p] aq bd false none) (.loop 0 sl [p] aq bd true none) rfl rfl _ (Sub.refl _)
  obtain ⟨e2,S2,s2,H2,r2,q2,hb2⟩:=hw S1 q1
  rw [hm]
  have fin:∀(B:A1) (er:Ex),B.length = K→H2.take (K + 1 + L.length) = B++.loop 0 sl [p] aq bd true none :: L→e2 = er→H6 T c (Hs s++.loop 0 sl [p] aq bd false none :: L) (.fn (.yield K) [] []) [v] [.b (!er.out)] (B++.loop 0 sl [p] aq bd false (match er with | .normal=>none | e=>some e) :: L):= by
   intro B er hB tk he
   subst he
   have g2:hget H2 K = some (.loop 0 sl [p] aq bd true none):= by
    have:hget (H2.take (K + 1 + L.length)) K = hget H2 K:= by unfold hget; exact List.getElem?_take_of_lt (by omega)
    rw [← this,tk]; exact gat _ _ _ hB
   refine H6.yield (ps:=[p]) (st0:=⟨(p,v) :: sl,Hs s++.loop 0 sl [p] aq bd false none :: L,⟨K + 1 + L.length,c.cur :: c.outer⟩⟩) (st1:=⟨S1,Hs s++.loop 0 sl [p] aq bd false none :: L1,⟨K + 1 + L.length,c.cur :: c.outer⟩⟩)
    (st2:=⟨S2,H2,⟨K + 1 + L.length,c.cur :: c.outer⟩⟩) (e:=e2) rfl (gat _ _ _ (hk s)) rfl (by rw [hml]; rfl) r1 (gat _ _ _ (hk s)) (by rw [sat _ _ _ _ (hk s)]) r2 g2 rfl ?_
   rw [hml]
   simp only [trunc,bdL,if_true]
   rw [C2u,tk,sat _ _ _ _ hB]
   cases e2 <;> rfl
  cases o with
  | inl s' =>
   have:=fin (Hs s') .normal (hk s') hb2.2 hb2.1
   have hm2:Hm (.inl s')++L = Hs s'++.loop 0 sl [p] aq bd false none :: L:=hap _ _ _
   rw [hm2]; exact this
  | inr r =>
   have:=fin (Hx r) (ex r) (hkx r) hb2.2 hb2.1
   have he:(match ex r with | .normal=>none | e=>some e) = some (ex r):= by
    have:=hex r
    cases hq:ex r <;> rw [hq] at this <;> first | rfl | cases this
   rw [he,hex r] at this
   have hm2:Hm (.inr r)++L = Hx r++.loop 0 sl [p] aq bd false (some (ex r)) :: L:=hap _ _ _
   rw [hm2]; exact this
 have hcall:=hit Hm (K + 1) hN (by
  intro x
  cases x with
  | inl x=>exact hpre.1 x _
  | inr x=>exact hpre.2 x _) (.fn (.yield K) [] []) (by simp only [AV.bd,bdL,Bool.and_true]; exact Nat.ble_eq_true_of_le (by omega)) rfl body hy h (c:=c) (by
  have hq:=hN (.inl s0)
  exact B6o hc (by rw [hq,hk]; omega))
 have hres:=hs S hS
 have g:∀o:σ ⊕ ρ,hget (Hm o) K = some (.loop 0 sl [p] aq bd false (B6l ex o)):= by
  intro o
  cases o with
  | inl x=>exact gat _ _ [] (hk x)
  | inr x=>exact gat _ _ [] (hkx x)
 have hr:=F7.rangeFunc (T:=T) (ac:=.rangeFunc f [p] live aq bd) (st:=⟨S,Hs s0,c⟩) (l:=K) (H0:=Hm (.inl s0)) (H':=Hm o) (pend:=B6l ex o) (e:=C9r ex o)
  (st':=⟨S,hset (Hm o) K .dead,c⟩) rfl (Y1 hS hf) (hk s0).symm (by simp only [hres,Hm]) hcall (g o) (by cases o <;> rfl) rfl
 refine ⟨_,S,s,_,hr,hS,?_⟩
 cases o with
 | inl x =>
  have:hset (Hm (.inl x)) K .dead = Hs x++[.dead]:=sat _ _ _ [] (hk x)
  show Q .normal s (hset (Hm (.inl x)) K .dead)
  rw [this]; exact kont
 | inr r =>
  have:hset (Hm (.inr r)) K .dead = Hx r++[.dead]:=sat _ _ _ [] (hkx r)
  show Q (ex r) s (hset (Hm (.inr r)) K .dead)
  rw [this]; exact kont
end
end Am
end
section
set_option maxRecDepth 100000
set_option maxHeartbeats 0
namespace Pw
open Go Am Go.Proofs.Ytjpjdglddmhplaa.Cd
def A39 (a0:PaGown) (a1:PaFigure) (a2:Int):Option Int :=
 some (w64 (a0.Fee * (w64 ((w64 (a1.Until - a1.Day)) + 1))))
theorem A6k {c:Sc} {H:A1} {a0:PaGown} {a1:PaFigure} {a2:Int} {r:Int} (h:A39 a0 a1 a2 = some r) :
  F2 tab c H (.fn (.func 26) [] []) [(.agg (C1 a0)),(.agg (B3 a1)),.i a2] [.i r]:= by
 unfold A39 at h
 refine cE rfl rfl<|sg 0 rfl<|A0 (F9 (cs:=C1 a0) rfl rfl rfl) rfl<|A0 (F9 (cs:=B3 a1) rfl rfl rfl) rfl<|qm rfl<|es (ra2 rfl rfl)<|s0<|A0 (C3 rfl) rfl<|A0 (B7 rfl rfl rfl) rfl<|A0 (C3 rfl) rfl<|A0 (B7 rfl rfl rfl) rfl<|A0 (C3 rfl) rfl<|A0 (B7 rfl rfl rfl) rfl<|A0 (Z0 rfl rfl) rfl<|A0 (G6 rfl rfl) rfl<|A0 (C0h rfl rfl) rfl<|qm rfl<|es (ra1 rfl)<|C7 ?_
 obtain rfl:=os h
 exact retq trivial (A9 rfl C0) (A5 rfl B9) (A3 A4 B1)
def A4a (a0:PaFigure) (a1:Int):Option Int :=
 some 0
theorem B08 {c:Sc} {H:A1} {a0:PaFigure} {a1:Int} {r:Int} (h:A4a a0 a1 = some r) :
  F2 tab c H (.fn (.func 42) [] []) [(.agg (B3 a0)),.i a1] [.i r]:= by
 unfold A4a at h
 refine cE rfl rfl<|sg 0 rfl<|A0 (F9 (cs:=B3 a0) rfl rfl rfl) rfl<|qm rfl<|es .n<|s0<|qm rfl<|es (ra1 rfl)<|C7 ?_
 obtain rfl:=os h
 exact retq trivial (A9 rfl C0) (A5 rfl B9) (A3 A4 B1)
def A4c (a0:PaFigure) (a1:Int):Option Int :=
 some a1
theorem B1a {c:Sc} {H:A1} {a0:PaFigure} {a1:Int} {r:Int} (h:A4c a0 a1 = some r) :
  F2 tab c H (.fn (.func 44) [] []) [(.agg (B3 a0)),.i a1] [.i r]:= by
 unfold A4c at h
 refine cE rfl rfl<|sg 0 rfl<|A0 (F9 (cs:=B3 a0) rfl rfl rfl) rfl<|qm rfl<|es (ra1 rfl)<|s0<|qm rfl<|qm rfl<|es (ra1 rfl)<|C7 ?_
 obtain rfl:=os h
 exact retq trivial (A9 rfl C0) (A5 rfl B9) (A3 A4 B1)
def A4e (a0:PaFigure) (a1:Int):Option Int :=
 some a0.Day
theorem B1c {c:Sc} {H:A1} {a0:PaFigure} {a1:Int} {r:Int} (h:A4e a0 a1 = some r) :
  F2 tab c H (.fn (.func 46) [] []) [(.agg (B3 a0)),.i a1] [.i r]:= by
 unfold A4e at h
 refine cE rfl rfl<|sg 0 rfl<|A0 (F9 (cs:=B3 a0) rfl rfl rfl) rfl<|qm rfl<|es (ra1 rfl)<|s0<|A0 (C3 rfl) rfl<|A0 (B7 rfl rfl rfl) rfl<|qm rfl<|es (ra1 rfl)<|C7 ?_
 obtain rfl:=os h
 exact retq trivial (A9 rfl C0) (A5 rfl B9) (A3 A4 B1)
def A9z (a0:PaGown) (a1:PaFigure) (a2:Int):Option Int :=
 some 0
theorem B6k {c:Sc} {H:A1} {a0:PaGown} {a1:PaFigure} {a2:Int} {r:Int} (h:A9z a0 a1 a2 = some r) :
  F2 tab c H (.fn (.func 41) [] []) [(.agg (C1 a0)),(.agg (B3 a1)),.i a2] [.i r]:= by
 unfold A9z at h
 refine cE rfl rfl<|sg 0 rfl<|A0 (F9 (cs:=C1 a0) rfl rfl rfl) rfl<|A0 (F9 (cs:=B3 a1) rfl rfl rfl) rfl<|qm rfl<|es .n<|s0<|qm rfl<|es (ra1 rfl)<|C7 ?_
 obtain rfl:=os h
 exact retq trivial (A9 rfl C0) (A5 rfl B9) (A3 A4 B1)
def A1s (a0:PaGown) (a1:PaFigure) (a2:Int):Option Int :=
 some (w64 (a0.Loan + (w64 (a0.Rate * (w64 (1 + (w64 (Int.tdiv (w64 (a0.Ago + a2)) 30))))))))
theorem A4q {c:Sc} {H:A1} {a0:PaGown} {a1:PaFigure} {a2:Int} {r:Int} (h:A1s a0 a1 a2 = some r) :
  F2 tab c H (.fn (.func 25) [] []) [(.agg (C1 a0)),(.agg (B3 a1)),.i a2] [.i r]:= by
 unfold A1s at h
 refine cE rfl rfl<|sg 0 rfl<|A0 (F9 (cs:=C1 a0) rfl rfl rfl) rfl<|A0 (F9 (cs:=B3 a1) rfl rfl rfl) rfl<|qm rfl<|es (ra2 rfl rfl)<|s0<|A0 (C3 rfl) rfl<|A0 (B7 rfl rfl rfl) rfl<|A0 (C3 rfl) rfl<|A0 (B7 rfl rfl rfl) rfl<|A0 (C3 rfl) rfl<|A0 (B7 rfl rfl rfl) rfl<|qm rfl<|A0 (G6 rfl rfl) rfl<|A0 (Q5 (v:=(.i (w64 (Int.tdiv (w64 (a0.Ago + a2)) 30)))) rfl rfl rfl) rfl<|A0 (G6 rfl rfl) rfl<|A0 (C0h rfl rfl) rfl<|A0 (G6 rfl rfl) rfl<|qm rfl<|es (ra1 rfl)<|C7 ?_
 obtain rfl:=os h
 exact retq trivial (A9 rfl C0) (A5 rfl B9) (A3 A4 B1)
def W3 (a0:pawn_show) (a1:Int) (a2:PaUse):Option (Int × Int) :=
 (A1z).bind fun x1 =>
 if ((a2.Gown == x1.Gown) && ((a2.How == x1.How) && ((a2.Day == x1.Day) && true))) = true then
  some (0,0)
 else
  (inR 3 a2.How).bind fun x3 =>
  (idx a0.PaShow.Gowns a2.Gown).bind fun x4 =>
  (idx a0.PaShow.Figures a1).bind fun x5 =>
  (sel3 a2.How (A9z x4 x5 a2.Day) (A1s x4 x5 a2.Day) (A39 x4 x5 a2.Day)).bind fun x6 =>
  (idx a0.PaShow.Figures a1).bind fun x7 =>
  (sel3 a2.How (A4a x7 a2.Day) (A4c x7 a2.Day) (A4e x7 a2.Day)).bind fun x8 =>
  some (x6,x8)
theorem Q6 {c:Sc} {H:A1} {a0:pawn_show} {b0:Nat} (hb0:hcells H b0 = some [(.seq 8 (List.map C1 a0.PaShow.Gowns)),(.seq 4 (List.map B3 a0.PaShow.Figures)),.i a0.PaShow.Purse,(.seq 2 (List.map D7 a0.PaShow.Incomes)),(.fn (.func 41) [] []),(.fn (.func 42) [] []),(.fn (.func 43) [] []),(.fn (.func 25) [] []),(.fn (.func 44) [] []),(.fn (.func 45) [] []),(.fn (.func 26) [] []),(.fn (.func 46) [] []),(.fn (.func 47) [] []),(.seq 1 (List.map cI a0.days_))]) {a1:Int} {a2:PaUse} {r:(Int × Int)} (h:W3 a0 a1 a2 = some r) :
  F2 tab c H (.fn (.func 54) [] []) [.ptr b0 0,.i a1,(.agg (A8 a2))] [.i r.1,.i r.2]:= by
 unfold W3 at h
 refine cE rfl rfl<|sg 0 rfl<|A0 (F9 (cs:=A8 a2) rfl rfl rfl) rfl<|qm rfl<|qm rfl<|es (ra3 rfl rfl rfl)<|C6<|s0<|oB h fun x1 hx1 h=>A0 (E5 rfl rfl rfl) rfl<|S3 (rs:=[(.agg (A8 x1))]) rfl rfl A0t B5 ((A1m hx1).frz)<|A0 (B9r (a:=A8 a2) (b:=A8 x1) rfl rfl rfl rfl (R8 (R8 (R8 A7u)))) rfl<|es (ra4 rfl rfl rfl rfl)<|wi h rfl (fun hc2 h=>?_) fun hc2 h=>?_
 ·refine s0<|qm rfl<|qm rfl<|es (ra2 rfl rfl)<|C7 ?_
  obtain rfl:=os h
  exact retq trivial (A9 rfl (A9 rfl C0)) (A5 rfl (A5 rfl B9)) (A3 A4 (A3 A4 B1))
 ·refine C9<|sg 1 rfl<|oB h fun x3 hx3 h=>qm rfl<|A0 (C3 rfl) rfl<|L6 [1] (V1 [1] rfl J2 rfl rfl) (seen0 rfl) (B7 rfl rfl rfl) rfl<|A0 (J8 rfl rfl) rfl<|A0 (C3 rfl) rfl<|A0 (A51 rfl rfl (B58 hx3)) rfl<|L6 [1] (V1 [1] rfl J2 rfl rfl) (seen0 rfl) (B2w (ds:=[(.fn (.func (isel a2.How 41 25 26)) [] []),(.fn (.func (isel a2.How 42 44 46)) [] []),(.fn (.func (isel a2.How 43 45 47)) [] [])]) rfl hb0 (D0w hx3) (D0v hx3)) rfl<|A0 G8 rfl<|M4 (E4 (ds:=[(.fn (.func (isel a2.How 41 25 26)) [] []),(.fn (.func (isel a2.How 42 44 46)) [] []),(.fn (.func (isel a2.How 43 45 47)) [] [])]) rfl rfl rfl rfl (W7 (Nat.le_add_right _ _)) rfl) rfl<|es (ra4 rfl rfl rfl rfl)<|s0<|oB h fun x4 hx4 h=>oB h fun x5 hx5 h=>oB h fun x6 hx6 h=>oB h fun x7 hx7 h=>oB h fun x8 hx8 h=>A0 (C3 rfl) rfl<|A0 (B7 (x:=(.fn (.func (isel a2.How 41 25 26)) [] [])) rfl rfl rfl) rfl<|qm rfl<|A0 (J8 rfl rfl) rfl<|A0 (C3 rfl) rfl<|A0 (C3 rfl) rfl<|A0 (E9 (x:=(.seq 8 (List.map C1 a0.PaShow.Gowns))) rfl hb0 rfl) rfl<|A0 (C3 rfl) rfl<|A0 (B7 rfl rfl rfl) rfl<|A0 (J0 (f:=C1) rfl rfl hx4) rfl<|A0 (H8 rfl rfl) rfl<|qm rfl<|A0 (J8 rfl rfl) rfl<|A0 (C3 rfl) rfl<|A0 (C3 rfl) rfl<|A0 (E9 (x:=(.seq 4 (List.map B3 a0.PaShow.Figures))) rfl hb0 rfl) rfl<|qm rfl<|A0 (J0 (f:=B3) rfl rfl hx5) rfl<|A0 (H8 rfl rfl) rfl<|A0 (C3 rfl) rfl<|A0 (B7 rfl rfl rfl) rfl<|S3 (rs:=[.i x6]) rfl rfl (A8f rfl (A8f rfl (A8f rfl A0t))) (A2 (D8 rfl) (A2 (D8 rfl) (A2 rfl B5))) (B3l (rs:=fun (y:Int)=>[.i y]) (fun h=>(B6k h).frz) (fun h=>(A4q h).frz) (fun h=>(A6k h).frz) hx6)<|A0 (C3 rfl) rfl<|A0 (B7 (x:=(.fn (.func (isel a2.How 42 44 46)) [] [])) rfl rfl rfl) rfl<|qm rfl<|A0 (J8 rfl rfl) rfl<|A0 (C3 rfl) rfl<|A0 (C3 rfl) rfl<|A0 (E9 (x:=(.seq 4 (List.map B3 a0.PaShow.Figures))) rfl hb0 rfl) rfl<|qm rfl<|A0 (J0 (f:=B3) rfl rfl hx7) rfl<|A0 (H8 rfl rfl) rfl<|A0 (C3 rfl) rfl<|A0 (B7 rfl rfl rfl) rfl<|B8 (rs:=[.i x8]) rfl rfl (A2 (D8 rfl) (A2 rfl B5)) (B3l (rs:=fun (y:Int)=>[.i y]) (fun h=>(B08 h).frz) (fun h=>(B1a h).frz) (fun h=>(B1c h).frz) hx8)<|qm rfl<|qm rfl<|es (ra2 rfl rfl)<|C7 ?_
  obtain rfl:=os h
  exact retq trivial (A9 rfl (A9 rfl C0)) (A5 rfl (A5 rfl B9)) (A3 A4 (A3 A4 B1))
def A0f (a0:pawn_show) (a2:Int) (s1:(Int × Int)):Option ((Int × Int) ⊕ Int) :=
 if (decide (s1.2 < (List.length a0.PaShow.Incomes:Int))) = true then
  (idx a0.PaShow.Incomes s1.2).bind fun x4 =>
  if (decide (x4.Day≤a2)) = true then
  some (.inl ((w64 (s1.1 + x4.Pence)),(w64 (s1.2 + 1))))
  else
  some (.inl (s1.1,(w64 (s1.2 + 1))))
 else
  some (.inr s1.1)
def A0g (a0:pawn_show) (a1:(List PaUse)) (a2:Int) (s7:(Int × Int)):Option ((Int × Int) ⊕ Int) :=
 if (decide (s7.2 < (List.length a1:Int))) = true then
  (idx a1 s7.2).bind fun x10 =>
  (W3 a0 s7.2 x10).bind fun x11 =>
  if (decide (x11.2≤a2)) = true then
  some (.inl ((w64 (s7.1 - x11.1)),(w64 (s7.2 + 1))))
  else
  some (.inl (s7.1,(w64 (s7.2 + 1))))
 else
  some (.inr s7.1)
def S5 (a0:pawn_show) (a1:(List PaUse)) (a2:Int):Option Int :=
 (loop (A0f a0 a2) (a0.PaShow.Purse,0)).bind fun (o6:Int) =>
 (loop (A0g a0 a1 a2) (o6,0)).bind fun (o13:Int) =>
 some o13
theorem A2s {c:Sc} {H:A1} {a0:pawn_show} {b0:Nat} (hb0:hcells H b0 = some [(.seq 8 (List.map C1 a0.PaShow.Gowns)),(.seq 4 (List.map B3 a0.PaShow.Figures)),.i a0.PaShow.Purse,(.seq 2 (List.map D7 a0.PaShow.Incomes)),(.fn (.func 41) [] []),(.fn (.func 42) [] []),(.fn (.func 43) [] []),(.fn (.func 25) [] []),(.fn (.func 44) [] []),(.fn (.func 45) [] []),(.fn (.func 26) [] []),(.fn (.func 46) [] []),(.fn (.func 47) [] []),(.seq 1 (List.map cI a0.days_))]) {a1:(List PaUse)} {a2:Int} {r:Int} (h:S5 a0 a1 a2 = some r) :
  F2 tab c H (.fn (.func 29) [] []) [.ptr b0 0,(.seq 3 (List.map A8 a1)),.i a2] [.i r]:= by
 unfold S5 at h
 refine cE rfl rfl<|s0<|qm rfl<|es (ra3 rfl rfl rfl)<|s0<|qm rfl<|A0 (J8 rfl rfl) rfl<|A0 (C3 rfl) rfl<|A0 (C3 rfl) rfl<|A0 (E9 (x:=(.i a0.PaShow.Purse)) rfl hb0 rfl) rfl<|qm rfl<|es (ra4 rfl rfl rfl rfl)<|C6<|s0<|qm rfl<|A0 (J8 rfl rfl) rfl<|A0 (C3 rfl) rfl<|A0 (C3 rfl) rfl<|A0 (E9 (x:=(.seq 2 (List.map D7 a0.PaShow.Incomes))) rfl hb0 rfl) rfl<|A0 (I6 (f:=D7) rfl) rfl<|qm rfl<|es (ra7 rfl rfl rfl rfl rfl rfl rfl)<|C4<|oB h fun o6 ho6 h=>wl (fun s1=>[(0,.ptr b0 0),(1,(.seq 3 (List.map A8 a1))),(2,.i a2),(7,.i s1.1),(23,(.seq 2 (List.map D7 a0.PaShow.Incomes))),(24,(.i (List.length a0.PaShow.Incomes:Int))),(25,.i s1.2)]) (fun (q2:Unit) s1=>[]) 0 (fun r e s' H'=>PX 0 [(0,.ptr b0 0),(1,(.seq 3 (List.map A8 a1))),(2,.i a2),(7,.i r)] (H++[]) e s' H') () ho6 rfl rfl (fun _ _=>rfl) (fun _=>rfl) rfl (fun s1=>(bdc (A2k hb0) (bdc M0 (bdc A4 (bdc A4 (bdc M0 (bdc A4 (bdc A4 bdn)))))))) (fun q2 s1 ys1 hs1=>?_) ?_
 ·unfold A0f at hs1
  refine s0<|A0 (L5 rfl rfl) rfl<|es (ra8 rfl rfl rfl rfl rfl rfl rfl rfl)<|C6<|wi hs1 rfl (fun hc3 hs1=>?_) fun hc3 hs1=>?_
  ·refine C9<|C6<|C4<|sg 0 rfl<|oB hs1 fun x4 hx4 hs1=>A0 (J0 (f:=D7) rfl rfl hx4) rfl<|A0 (H8 rfl rfl) rfl<|A0 G8 rfl<|M4 (E4 (ds:=(D7 x4)) rfl rfl rfl rfl (D9 rfl) rfl) rfl<|es (ra8 rfl rfl rfl rfl rfl rfl rfl rfl)<|s0<|A0 (C3 rfl) rfl<|A0 (B7 rfl rfl rfl) rfl<|qm rfl<|A0 (A59 rfl rfl) rfl<|es (ra9 rfl rfl rfl rfl rfl rfl rfl rfl rfl)<|wi hs1 rfl (fun hc5 hs1=>?_) fun hc5 hs1=>?_
   ·refine r0<|qm rfl<|A0 (C3 rfl) rfl<|A0 (B7 rfl rfl rfl) rfl<|A0 (G6 rfl rfl) rfl<|qm rfl<|en (ra7 rfl rfl rfl rfl rfl rfl rfl)<|r0<|A0 (G6 rfl rfl) rfl<|qm rfl<|en (ra7 rfl rfl rfl rfl rfl rfl rfl) ?_
    cases hs1
    exact lnT () rfl (su7 rfl rfl rfl rfl rfl rfl rfl)
   ·refine C9<|r0<|A0 (G6 rfl rfl) rfl<|qm rfl<|en (ra7 rfl rfl rfl rfl rfl rfl rfl) ?_
    cases hs1
    exact lnT () rfl (su7 rfl rfl rfl rfl rfl rfl rfl)
  ·refine K4 ?_
   obtain rfl:=os hs1
   exact lx rfl px (su4 rfl rfl rfl rfl)
 ·rintro e s' H' - ⟨rfl,rfl,rfl⟩
  refine C6<|s0<|qm rfl<|A0 (I6 (f:=A8) rfl) rfl<|qm rfl<|es (ra6 rfl rfl rfl rfl rfl rfl)<|C4<|oB h fun o13 ho13 h=>wl (fun s7=>[(0,.ptr b0 0),(2,.i a2),(7,.i s7.1),(38,(.seq 3 (List.map A8 a1))),(39,(.i (List.length a1:Int))),(40,.i s7.2)]) (fun (q8:Unit) s7=>[]) 0 (fun r e s' H'=>PX 2 [(7,.i r)] (H++[]) e s' H') () ho13 rfl rfl (fun _ _=>rfl) (fun _=>rfl) rfl (fun s7=>(bdc (A2k hb0) (bdc A4 (bdc A4 (bdc M0 (bdc A4 (bdc A4 bdn))))))) (fun q8 s7 ys7 hs7=>?_) ?_
  ·unfold A0g at hs7
   refine s0<|A0 (L5 rfl rfl) rfl<|es (ra7 rfl rfl rfl rfl rfl rfl rfl)<|C6<|wi hs7 rfl (fun hc9 hs7=>?_) fun hc9 hs7=>?_
   ·refine C9<|C6<|C4<|sg 0 rfl<|oB hs7 fun x10 hx10 hs7=>qm rfl<|A0 (J0 (f:=A8) rfl rfl hx10) rfl<|A0 (H8 rfl rfl) rfl<|A0 G8 rfl<|qm rfl<|M4 (E4 (ds:=(A8 x10)) rfl rfl rfl rfl (D9 rfl) rfl) rfl<|es (ra8 rfl rfl rfl rfl rfl rfl rfl rfl)<|s0<|oB hs7 fun x11 hx11 hs7=>qm rfl<|qm rfl<|A0 (E5 rfl rfl rfl) rfl<|B8 (rs:=[.i x11.1,.i x11.2]) rfl rfl (A2 rfl (A2 rfl (A2 (D8 rfl) B5))) ((Q6 (D3 hb0 _) hx11).frz)<|qm rfl<|A0 (A7 rfl rfl) rfl<|A0 (A7 rfl rfl) rfl<|qm rfl<|qm rfl<|es (ra8 rfl rfl rfl rfl rfl rfl rfl rfl)<|s0<|qm rfl<|qm rfl<|A0 (A59 rfl rfl) rfl<|es (ra8 rfl rfl rfl rfl rfl rfl rfl rfl)<|wi hs7 rfl (fun hc12 hs7=>?_) fun hc12 hs7=>?_
    ·refine r0<|qm rfl<|qm rfl<|A0 (Z0 rfl rfl) rfl<|qm rfl<|en (ra6 rfl rfl rfl rfl rfl rfl)<|r0<|A0 (G6 rfl rfl) rfl<|qm rfl<|en (ra6 rfl rfl rfl rfl rfl rfl) ?_
     cases hs7
     exact lnT () rfl (su6 rfl rfl rfl rfl rfl rfl)
    ·refine C9<|r0<|A0 (G6 rfl rfl) rfl<|qm rfl<|en (ra6 rfl rfl rfl rfl rfl rfl) ?_
     cases hs7
     exact lnT () rfl (su6 rfl rfl rfl rfl rfl rfl)
   ·refine K4 ?_
    obtain rfl:=os hs7
    exact lx rfl px (su1 rfl)
  ·rintro e s' H' - ⟨rfl,rfl,rfl⟩
   refine s0<|qm rfl<|qm rfl<|es (ra1 rfl)<|C7 ?_
   obtain rfl:=os h
   exact retq trivial (A9 rfl C0) (A5 rfl B9) (A3 A4 B1)
def Y6 (a0:pawn_show) (a1:(List PaUse)) (s1:(Int × Int × Int)):Option ((Int × Int × Int) ⊕ (Int × Int)) :=
 if (decide (s1.2.2 < (List.length a1:Int))) = true then
  (idx a1 s1.2.2).bind fun x4 =>
  (W3 a0 s1.2.2 x4).bind fun x5 =>
  (S5 a0 a1 x5.2).bind fun x6 =>
  if (decide (x6 < 0)) = true then
  some (.inl ((D2d s1.1 (w64 (0 - x6))),(C91 s1.2.1 x5.2),(w64 (s1.2.2 + 1))))
  else
  some (.inl (s1.1,s1.2.1,(w64 (s1.2.2 + 1))))
 else
  some (.inr (s1.1,s1.2.1))
def Q0 (a0:pawn_show) (a1:(List PaUse)):Option (Int × Int) :=
 (loop (Y6 a0 a1) (0,365,0)).bind fun (o8:(Int × Int)) =>
 some (o8.1,o8.2)
theorem A7a {c:Sc} {H:A1} {a0:pawn_show} {b0:Nat} (hb0:hcells H b0 = some [(.seq 8 (List.map C1 a0.PaShow.Gowns)),(.seq 4 (List.map B3 a0.PaShow.Figures)),.i a0.PaShow.Purse,(.seq 2 (List.map D7 a0.PaShow.Incomes)),(.fn (.func 41) [] []),(.fn (.func 42) [] []),(.fn (.func 43) [] []),(.fn (.func 25) [] []),(.fn (.func 44) [] []),(.fn (.func 45) [] []),(.fn (.func 26) [] []),(.fn (.func 46) [] []),(.fn (.func 47) [] []),(.seq 1 (List.map cI a0.days_))]) {a1:(List PaUse)} {r:(Int × Int)} (h:Q0 a0 a1 = some r) :
  F2 tab c H (.fn (.func 56) [] []) [.ptr b0 0,(.seq 3 (List.map A8 a1))] [.i r.1,.i r.2]:= by
 unfold Q0 at h
 refine cE rfl rfl<|s0<|qm rfl<|qm rfl<|es (ra3 rfl rfl rfl)<|s0<|qm rfl<|es (ra4 rfl rfl rfl rfl)<|C6<|s0<|qm rfl<|A0 (I6 (f:=A8) rfl) rfl<|qm rfl<|es (ra7 rfl rfl rfl rfl rfl rfl rfl)<|C4<|oB h fun o8 ho8 h=>wl (fun s1=>[(0,.ptr b0 0),(1,(.seq 3 (List.map A8 a1))),(4,.i s1.1),(5,.i s1.2.1),(11,(.seq 3 (List.map A8 a1))),(12,(.i (List.length a1:Int))),(13,.i s1.2.2)]) (fun (q2:Unit) s1=>[]) 0 (fun r e s' H'=>PX 0 [(4,.i r.1),(5,.i r.2)] (H++[]) e s' H') () ho8 rfl rfl (fun _ _=>rfl) (fun _=>rfl) rfl (fun s1=>(bdc (A2k hb0) (bdc M0 (bdc A4 (bdc A4 (bdc M0 (bdc A4 (bdc A4 bdn)))))))) (fun q2 s1 ys1 hs1=>?_) ?_
 ·unfold Y6 at hs1
  refine s0<|A0 (L5 rfl rfl) rfl<|es (ra8 rfl rfl rfl rfl rfl rfl rfl rfl)<|C6<|wi hs1 rfl (fun hc3 hs1=>?_) fun hc3 hs1=>?_
  ·refine C9<|C6<|C4<|sg 0 rfl<|oB hs1 fun x4 hx4 hs1=>qm rfl<|A0 (J0 (f:=A8) rfl rfl hx4) rfl<|A0 (H8 rfl rfl) rfl<|A0 G8 rfl<|qm rfl<|M4 (E4 (ds:=(A8 x4)) rfl rfl rfl rfl (D9 rfl) rfl) rfl<|es (ra9 rfl rfl rfl rfl rfl rfl rfl rfl rfl)<|s0<|oB hs1 fun x5 hx5 hs1=>qm rfl<|qm rfl<|A0 (E5 rfl rfl rfl) rfl<|B8 (rs:=[.i x5.1,.i x5.2]) rfl rfl (A2 rfl (A2 rfl (A2 (D8 rfl) B5))) ((Q6 (D3 hb0 _) hx5).frz)<|qm rfl<|A0 (A7 rfl rfl) rfl<|A0 (A7 rfl rfl) rfl<|qm rfl<|qm rfl<|es (ra8 rfl rfl rfl rfl rfl rfl rfl rfl)<|s0<|oB hs1 fun x6 hx6 hs1=>qm rfl<|qm rfl<|qm rfl<|N2 (R3 (rs:=[.i x6]) rfl rfl ((A2s (D3 hb0 _) hx6).frz)) rfl<|qm rfl<|es (ra9 rfl rfl rfl rfl rfl rfl rfl rfl rfl)<|s0<|qm rfl<|A0 (L5 rfl rfl) rfl<|es (ra10 rfl rfl rfl rfl rfl rfl rfl rfl rfl rfl)<|wi hs1 rfl (fun hc7 hs1=>?_) fun hc7 hs1=>?_
   ·refine r0<|qm rfl<|qm rfl<|A0 (B75 rfl rfl) rfl<|A0 (C4h rfl rfl) rfl<|qm rfl<|qm rfl<|A0 (C4h rfl rfl) rfl<|qm rfl<|qm rfl<|en (ra7 rfl rfl rfl rfl rfl rfl rfl)<|r0<|A0 (G6 rfl rfl) rfl<|qm rfl<|en (ra7 rfl rfl rfl rfl rfl rfl rfl) ?_
    cases hs1
    exact lnT () rfl (su7 rfl rfl rfl rfl rfl rfl rfl)
   ·refine C9<|r0<|A0 (G6 rfl rfl) rfl<|qm rfl<|en (ra7 rfl rfl rfl rfl rfl rfl rfl) ?_
    cases hs1
    exact lnT () rfl (su7 rfl rfl rfl rfl rfl rfl rfl)
  ·refine K4 ?_
   obtain rfl:=os hs1
   exact lx rfl px (su2 rfl rfl)
 ·rintro e s' H' - ⟨rfl,rfl,rfl⟩
  refine s0<|qm rfl<|qm rfl<|qm rfl<|qm rfl<|es (ra2 rfl rfl)<|C7 ?_
  obtain rfl:=os h
  exact retq trivial (A9 rfl (A9 rfl C0)) (A5 rfl (A5 rfl B9)) (A3 A4 (A3 A4 B1))
theorem A7b {c:Sc} {H:A1} {a0:pawn_show} {b0:Nat} (hb0:hcells H b0 = some [(.seq 8 (List.map C1 a0.PaShow.Gowns)),(.seq 4 (List.map B3 a0.PaShow.Figures)),.i a0.PaShow.Purse,(.seq 2 (List.map D7 a0.PaShow.Incomes)),(.fn (.func 41) [] []),(.fn (.func 42) [] []),(.fn (.func 43) [] []),(.fn (.func 25) [] []),(.fn (.func 44) [] []),(.fn (.func 45) [] []),(.fn (.func 26) [] []),(.fn (.func 46) [] []),(.fn (.func 47) [] []),(.seq 1 (List.map cI a0.days_))]) {a1:(List PaUse)} {v:AV} (hv:SlV H v a1) {a2:Int} {r:Int} (h:S5 a0 a1 a2 = some r) :
  F2 tab c H (.fn (.func 29) [] []) [.ptr b0 0,v,.i a2] [.i r]:= by
 unfold S5 at h
 refine cE rfl rfl<|s0<|qm rfl<|es (ra3 rfl rfl rfl)<|s0<|qm rfl<|A0 (J8 rfl rfl) rfl<|A0 (C3 rfl) rfl<|A0 (C3 rfl) rfl<|A0 (E9 (x:=(.i a0.PaShow.Purse)) rfl hb0 rfl) rfl<|qm rfl<|es (ra4 rfl rfl rfl rfl)<|C6<|s0<|qm rfl<|A0 (J8 rfl rfl) rfl<|A0 (C3 rfl) rfl<|A0 (C3 rfl) rfl<|A0 (E9 (x:=(.seq 2 (List.map D7 a0.PaShow.Incomes))) rfl hb0 rfl) rfl<|A0 (I6 (f:=D7) rfl) rfl<|qm rfl<|es (ra7 rfl rfl rfl rfl rfl rfl rfl)<|C4<|oB h fun o6 ho6 h=>wl (fun s1=>[(0,.ptr b0 0),(1,v),(2,.i a2),(7,.i s1.1),(23,(.seq 2 (List.map D7 a0.PaShow.Incomes))),(24,(.i (List.length a0.PaShow.Incomes:Int))),(25,.i s1.2)]) (fun (q2:Unit) s1=>[]) 0 (fun r e s' H'=>PX 0 [(0,.ptr b0 0),(1,v),(2,.i a2),(7,.i r)] (H++[]) e s' H') () ho6 rfl rfl (fun _ _=>rfl) (fun _=>rfl) rfl (fun s1=>(bdc (A2k hb0) (bdc hv.bd (bdc A4 (bdc A4 (bdc M0 (bdc A4 (bdc A4 bdn)))))))) (fun q2 s1 ys1 hs1=>?_) ?_
 ·unfold A0f at hs1
  refine s0<|A0 (L5 rfl rfl) rfl<|es (ra8 rfl rfl rfl rfl rfl rfl rfl rfl)<|C6<|wi hs1 rfl (fun hc3 hs1=>?_) fun hc3 hs1=>?_
  ·refine C9<|C6<|C4<|sg 0 rfl<|oB hs1 fun x4 hx4 hs1=>A0 (J0 (f:=D7) rfl rfl hx4) rfl<|A0 (H8 rfl rfl) rfl<|A0 G8 rfl<|M4 (E4 (ds:=(D7 x4)) rfl rfl rfl rfl (D9 rfl) rfl) rfl<|es (ra8 rfl rfl rfl rfl rfl rfl rfl rfl)<|s0<|A0 (C3 rfl) rfl<|A0 (B7 rfl rfl rfl) rfl<|qm rfl<|A0 (A59 rfl rfl) rfl<|es (ra9 rfl rfl rfl rfl rfl rfl rfl rfl rfl)<|wi hs1 rfl (fun hc5 hs1=>?_) fun hc5 hs1=>?_
   ·refine r0<|qm rfl<|A0 (C3 rfl) rfl<|A0 (B7 rfl rfl rfl) rfl<|A0 (G6 rfl rfl) rfl<|qm rfl<|en (ra7 rfl rfl rfl rfl rfl rfl rfl)<|r0<|A0 (G6 rfl rfl) rfl<|qm rfl<|en (ra7 rfl rfl rfl rfl rfl rfl rfl) ?_
    cases hs1
    exact lnT () rfl (su7 rfl rfl rfl rfl rfl rfl rfl)
   ·refine C9<|r0<|A0 (G6 rfl rfl) rfl<|qm rfl<|en (ra7 rfl rfl rfl rfl rfl rfl rfl) ?_
    cases hs1
    exact lnT () rfl (su7 rfl rfl rfl rfl rfl rfl rfl)
  ·refine K4 ?_
   obtain rfl:=os hs1
   exact lx rfl px (su4 rfl rfl rfl rfl)
 ·rintro e s' H' - ⟨rfl,rfl,rfl⟩
  refine C6<|s0<|qm rfl<|A0 (A9n hv rfl) rfl<|qm rfl<|es (ra6 rfl rfl rfl rfl rfl rfl)<|C4<|oB h fun o13 ho13 h=>wl (fun s7=>[(0,.ptr b0 0),(2,.i a2),(7,.i s7.1),(38,v),(39,(.i (List.length a1:Int))),(40,.i s7.2)]) (fun (q8:Unit) s7=>[]) 0 (fun r e s' H'=>PX 2 [(7,.i r)] (H++[]) e s' H') () ho13 rfl rfl (fun _ _=>rfl) (fun _=>rfl) rfl (fun s7=>(bdc (A2k hb0) (bdc A4 (bdc A4 (bdc hv.bd (bdc A4 (bdc A4 bdn))))))) (fun q8 s7 ys7 hs7=>?_) ?_
  ·unfold A0g at hs7
   refine s0<|A0 (L5 rfl rfl) rfl<|es (ra7 rfl rfl rfl rfl rfl rfl rfl)<|C6<|wi hs7 rfl (fun hc9 hs7=>?_) fun hc9 hs7=>?_
   ·refine C9<|C6<|C4<|sg 0 rfl<|oB hs7 fun x10 hx10 hs7=>qm rfl<|A0 (A9m hv hx10 rfl rfl) rfl<|A0 (B1p hv hx10 rfl) rfl<|A0 G8 rfl<|qm rfl<|M4 (E4 (ds:=(A8 x10)) rfl rfl rfl rfl (D9 rfl) rfl) rfl<|es (ra8 rfl rfl rfl rfl rfl rfl rfl rfl)<|s0<|oB hs7 fun x11 hx11 hs7=>qm rfl<|qm rfl<|A0 (E5 rfl rfl rfl) rfl<|B8 (rs:=[.i x11.1,.i x11.2]) rfl rfl (A2 rfl (A2 rfl (A2 (D8 rfl) B5))) ((Q6 (D3 hb0 _) hx11).frz)<|qm rfl<|A0 (A7 rfl rfl) rfl<|A0 (A7 rfl rfl) rfl<|qm rfl<|qm rfl<|es (ra8 rfl rfl rfl rfl rfl rfl rfl rfl)<|s0<|qm rfl<|qm rfl<|A0 (A59 rfl rfl) rfl<|es (ra8 rfl rfl rfl rfl rfl rfl rfl rfl)<|wi hs7 rfl (fun hc12 hs7=>?_) fun hc12 hs7=>?_
    ·refine r0<|qm rfl<|qm rfl<|A0 (Z0 rfl rfl) rfl<|qm rfl<|en (ra6 rfl rfl rfl rfl rfl rfl)<|r0<|A0 (G6 rfl rfl) rfl<|qm rfl<|en (ra6 rfl rfl rfl rfl rfl rfl) ?_
     cases hs7
     exact lnT () rfl (su6 rfl rfl rfl rfl rfl rfl)
    ·refine C9<|r0<|A0 (G6 rfl rfl) rfl<|qm rfl<|en (ra6 rfl rfl rfl rfl rfl rfl) ?_
     cases hs7
     exact lnT () rfl (su6 rfl rfl rfl rfl rfl rfl)
   ·refine K4 ?_
    obtain rfl:=os hs7
    exact lx rfl px (su1 rfl)
  ·rintro e s' H' - ⟨rfl,rfl,rfl⟩
   refine s0<|qm rfl<|qm rfl<|es (ra1 rfl)<|C7 ?_
   obtain rfl:=os h
   exact retq trivial (A9 rfl C0) (A5 rfl B9) (A3 A4 B1)
theorem A57 {c:Sc} {H:A1} {a0:pawn_show} {b0:Nat} (hb0:hcells H b0 = some [(.seq 8 (List.map C1 a0.PaShow.Gowns)),(.seq 4 (List.map B3 a0.PaShow.Figures)),.i a0.PaShow.Purse,(.seq 2 (List.map D7 a0.PaShow.Incomes)),(.fn (.func 41) [] []),(.fn (.func 42) [] []),(.fn (.func 43) [] []),(.fn (.func 25) [] []),(.fn (.func 44) [] []),(.fn (.func 45) [] []),(.fn (.func 26) [] []),(.fn (.func 46) [] []),(.fn (.func 47) [] []),(.seq 1 (List.map cI a0.days_))]) {a1:(List PaUse)} {v:AV} (hv:SlV H v a1) {r:(Int × Int)} (h:Q0 a0 a1 = some r) :
  F2 tab c H (.fn (.func 56) [] []) [.ptr b0 0,v] [.i r.1,.i r.2]:= by
 unfold Q0 at h
 refine cE rfl rfl<|s0<|qm rfl<|qm rfl<|es (ra3 rfl rfl rfl)<|s0<|qm rfl<|es (ra4 rfl rfl rfl rfl)<|C6<|s0<|qm rfl<|A0 (A9n hv rfl) rfl<|qm rfl<|es (ra7 rfl rfl rfl rfl rfl rfl rfl)<|C4<|oB h fun o8 ho8 h=>wl (fun s1=>[(0,.ptr b0 0),(1,v),(4,.i s1.1),(5,.i s1.2.1),(11,v),(12,(.i (List.length a1:Int))),(13,.i s1.2.2)]) (fun (q2:Unit) s1=>[]) 0 (fun r e s' H'=>PX 0 [(4,.i r.1),(5,.i r.2)] (H++[]) e s' H') () ho8 rfl rfl (fun _ _=>rfl) (fun _=>rfl) rfl (fun s1=>(bdc (A2k hb0) (bdc hv.bd (bdc A4 (bdc A4 (bdc hv.bd (bdc A4 (bdc A4 bdn)))))))) (fun q2 s1 ys1 hs1=>?_) ?_
 ·unfold Y6 at hs1
  refine s0<|A0 (L5 rfl rfl) rfl<|es (ra8 rfl rfl rfl rfl rfl rfl rfl rfl)<|C6<|wi hs1 rfl (fun hc3 hs1=>?_) fun hc3 hs1=>?_
  ·refine C9<|C6<|C4<|sg 0 rfl<|oB hs1 fun x4 hx4 hs1=>qm rfl<|A0 (A9m hv hx4 rfl rfl) rfl<|A0 (B1p hv hx4 rfl) rfl<|A0 G8 rfl<|qm rfl<|M4 (E4 (ds:=(A8 x4)) rfl rfl rfl rfl (D9 rfl) rfl) rfl<|es (ra9 rfl rfl rfl rfl rfl rfl rfl rfl rfl)<|s0<|oB hs1 fun x5 hx5 hs1=>qm rfl<|qm rfl<|A0 (E5 rfl rfl rfl) rfl<|B8 (rs:=[.i x5.1,.i x5.2]) rfl rfl (A2 rfl (A2 rfl (A2 (D8 rfl) B5))) ((Q6 (D3 hb0 _) hx5).frz)<|qm rfl<|A0 (A7 rfl rfl) rfl<|A0 (A7 rfl rfl) rfl<|qm rfl<|qm rfl<|es (ra8 rfl rfl rfl rfl rfl rfl rfl rfl)<|s0<|oB hs1 fun x6 hx6 hs1=>qm rfl<|qm rfl<|qm rfl<|N2 (R3 (rs:=[.i x6]) rfl rfl ((A7b (D3 hb0 _) hv.app hx6).frz)) rfl<|qm rfl<|es (ra9 rfl rfl rfl rfl rfl rfl rfl rfl rfl)<|s0<|qm rfl<|A0 (L5 rfl rfl) rfl<|es (ra10 rfl rfl rfl rfl rfl rfl rfl rfl rfl rfl)<|wi hs1 rfl (fun hc7 hs1=>?_) fun hc7 hs1=>?_
   ·refine r0<|qm rfl<|qm rfl<|A0 (B75 rfl rfl) rfl<|A0 (C4h rfl rfl) rfl<|qm rfl<|qm rfl<|A0 (C4h rfl rfl) rfl<|qm rfl<|qm rfl<|en (ra7 rfl rfl rfl rfl rfl rfl rfl)<|r0<|A0 (G6 rfl rfl) rfl<|qm rfl<|en (ra7 rfl rfl rfl rfl rfl rfl rfl) ?_
    cases hs1
    exact lnT () rfl (su7 rfl rfl rfl rfl rfl rfl rfl)
   ·refine C9<|r0<|A0 (G6 rfl rfl) rfl<|qm rfl<|en (ra7 rfl rfl rfl rfl rfl rfl rfl) ?_
    cases hs1
    exact lnT () rfl (su7 rfl rfl rfl rfl rfl rfl rfl)
  ·refine K4 ?_
   obtain rfl:=os hs1
   exact lx rfl px (su2 rfl rfl)
 ·rintro e s' H' - ⟨rfl,rfl,rfl⟩
  refine s0<|qm rfl<|qm rfl<|qm rfl<|qm rfl<|es (ra2 rfl rfl)<|C7 ?_
  obtain rfl:=os h
  exact retq trivial (A9 rfl (A9 rfl C0)) (A5 rfl (A5 rfl B9)) (A3 A4 (A3 A4 B1))
structure Fd where
 w:Int
 c:Int
 h:Ar3 Int
def C0n (t:PaShow) (days:List Int) (p:List PaUse) (x:Fd × Int):Option ((Fd × Int) ⊕ Fd) :=
 if (decide (x.2 < (List.length p:Int))) = true then
  (idx p x.2).bind fun u=>(W3 (shw t days) x.2 u).bind fun y=>(idx x.1.h.l x.2).bind fun _=>(A1z).bind fun bb =>
  if ((u.Gown == bb.Gown) && ((u.How == bb.How) && ((u.Day == bb.Day) && true))) = true then
   some (.inl (⟨w64 (x.1.w + 1),w64 (x.1.c + y.1),x.1.h.set x.2 (w64 (u.Gown + 1))⟩,w64 (x.2 + 1)))
  else some (.inl (⟨x.1.w,w64 (x.1.c + y.1),x.1.h.set x.2 (w64 (u.Gown + 1))⟩,w64 (x.2 + 1)))
 else some (.inr x.1)
def B53 (t:PaShow) (days:List Int) (p:List PaUse):Option pawn_found :=
 (B7z 24 (List.length p:Int) (PaUse.mk 0 0 0)).bind fun _ =>
 (loop (C0n t days p) (⟨0,0,⟨0,0,0⟩⟩,0)).bind fun x =>
 (Q0 (shw t days) p).bind fun y=>some ⟨p,x.w,x.c,y.1,x.h⟩
def B61 (t:PaShow) (days:List Int) (σ ρ:Type) (body:pawn_found→σ→Option (σ ⊕ ρ)) (s:σ):Option (σ ⊕ ρ) :=
 B1s t days σ ρ (fun p s=>(B53 t days p).bind fun x=>body x s) s
def shF (_:Nat) (_:A1) (x:pawn_found) (v:AV):Prop:=v = .agg (B2 x)
theorem C7s {α:Type} {d m:List α} (h:d.length = m.length):cpy d m = m:= by
 unfold cpy; rw [h,Nat.min_self,List.take_length,List.drop_of_length_le (by omega),List.append_nil]
theorem C8w {H:A1} {b:Nat} {p:Bool} {l:List PaUse} (h:harr H b = some (3,p,l.map A8)):rd H (.asl b l.length) 3 (l.map A8):=⟨by simp only [S7,h,List.length_map,Nat.beq_refl,if_true],by simp only [kOf,h]⟩
def fnC (q:AV) (x:Fd) (s:Int):List AV:=[q,.i x.w,.i x.c,.i s,.i x.h.x0,.i x.h.x1,.i x.h.x2]
section
variable {σ ρ:Type} {t:PaShow} {days:List Int} {b bS:Nat}
theorem C21 {G:A1} {c:Sc} {v:AV} {bY:Nat} {y:AV} {p:List PaUse} {x:pawn_found} {ok:Bool} {GE:A1} (hv:∃bp pb,v = .asl bp p.length∧harr G bp = some (3,pb,p.map A8)) (h1:hcells G bS = some [.ptr b 0]) (h2:hcells G b = some (A0j t days)) (hY:hcells G bY = some [y]) (hc:c.cur≤G.length)
  (hx:B53 t days p = some x) (hcall:∀(c':Sc) (l:List AO),(∀ o ∈ l,o.anc = [])→O8 c (G++l) = true→c' = c→H6 tab c' (G++l) y [.agg (B2 x)] [.b ok] (GE++l)) (hsc:O8 c G = true) :
  WP tab (.block 1 (.s 3 [M 0 12 3,LE 1 13 12,q 2 14 (.mkslice 3 24 [.lit (.int .i64 0),.lit (.int .i64 0),.lit (.int .i64 0)] 13 13 0),q 3 15 (.build [.seq 3 [],.lit (.int .i64 0),.lit (.int .i64 0),.lit (.int .i64 0),.lit (.int .i64 0),.lit (.int .i64 0),.lit (.int .i64 0)] [(0,1,14)]),q 4 4 (.alloc [.nils 3,.lit (.int .i64 0),.lit (.int .i64 0),.lit (.int .i64 0),.lit (.int .i64 0),.lit (.int .i64 0),.lit (.int .i64 0)] [(0,1,3)] 2),ST 5 7 4 15] [1,2,3,4] (.s 0 [FA 0 16 0 4,L 1 17 16,M 2 18 3,q 3 19 (.copy 3 17 18)] [1,2,3,4] (.seq (.s 0 [M 0 20 3,LE 1 21 20,M 2 22 (.i 0)] [1,2,3,4,20,21,22] (.block 2 (.loop true [1,2,3,4,20,21,22] (.s 0 [B 0 23 .lss 22 21] [1,2,3,4,20,21,22,23] (.seq (.cond 23 .skip (.exit 2)) (.seq (.block 3 (.s 1 [M 0 24 22,IX 1 25 3 20 22,LK 2 26 3 25,q 3 6 (.alloc [.lit (.int .i64 0),.lit (.int .i64 0),.lit (.int .i64 0)] [] 0),M 4 5 24,ST 5 3 6 26] [1,2,3,4,5,6,20,21,22] (.s 0 [L 0 28 1,M 1 29 5,LK 2 30 3 6,CL 3 31 54 [28,29,30],M 4 27 31,EX 5 32 27 0,EX 6 33 27 1,M 7 7 32,M 8 8 33] [1,2,3,4,5,6,7,20,21,22] (.s 0 [FA 0 34 2 4,L 1 35 34,M 2 36 7,B 3 37 .add 35 36,FA 4 38 2 4,ST 5 1 38 37] [1,2,3,4,5,6,20,21,22] (.s 0 [M 0 39 5,FA 1 40 0 6,L 2 41 40,B 3 42 .add 41 (.i 1),FA 4 43 4 4,q 5 44 (.idxA 1 3 43 39),ST 6 1 44 42] [1,2,3,4,6,20,21,22] (.sd 0 [LK 0 45 3 6,CP 1 46 52 [],q 2 47 (.cmp false [0,0,0] 45 46)]
 [1,2,3,4,20,21,22,47] (.cond 47 (.g 0 [FA 0 48 1 4,L 1 49 48,B 2 50 .add 49 (.i 1),FA 3 51 1 4,ST 4 1 51 50] [1,2,3,4,20,21,22]) .skip))))))) (.g 0 [B 0 52 .add 22 (.i 1),M 1 22 52] [1,2,3,4,20,21,22]))))))) (.s 0 [L 0 54 1,M 1 55 3,q 2 56 (.call (.f 56) [54,55] [[],[],[],[],[],[],[],[],[]] false),M 3 53 56,EX 4 57 53 0,EX 5 58 53 1,FA 6 59 3 4,ST 7 1 59 57] [2,4] (.s 0 [L 0 60 2,LK 1 61 7 4,q 2 62 (.call 60 [61] [] false),q 3 63 (.un .not 62)] [63] (.cond 63 .ret .skip)))))))
   [(1,.ptr bS 0),(2,.ptr bY 0),(3,v)] G c (fun e _ H'=>e = (if ok then .normal else .ret)∧∃ l,H' = GE++l):= by
 obtain ⟨bp,pb,rfl,hbp⟩:=hv
 have hGv:SlV G (.asl bp p.length) p:=.asl bp pb p hbp
 unfold B53 at hx
 refine oB hx fun p0 hp0 hx=>oB hx fun z hz hx=>oB hx fun sh hsh hx=>?_
 obtain rfl:=os hx
 have hlp:p0.length = p.length:= by obtain ⟨_,rfl⟩:=B45 hp0; simp
 have hcp:=C7s hlp
 refine Q9<|C4<|sg 0 rfl<|qm rfl<|A0 (A9n hGv rfl) rfl<|A0 (B49 (f:=A8) (zt:=PaUse.mk 0 0 0) rfl rfl rfl hp0) rfl<|A0 (O1 (cs:=[.asl (G.length + 0) p0.length,.i 0,.i 0,.i 0,.i 0,.i 0,.i 0]) rfl rfl) rfl<|A0 B70 rfl<|M4 (E4 (ds:=fnC (.asl (G.length + 0) p0.length) ⟨0,0,⟨0,0,0⟩⟩ 0) rfl rfl rfl rfl (W7 (Nat.le_trans hc (Nat.le_add_right _ _))) rfl) rfl<|es (ra4 rfl rfl rfl rfl)<|s0<|A0 (C3 rfl) rfl<|A0 (B7 (x:=.asl (G.length + 0) p0.length) rfl rfl rfl) rfl<|qm rfl<|N2 (C6c (f:=A8) (d:=p0) (m:=p) rfl rfl rfl rfl (C8w (V9 hbp)) (fun _=>rfl)) rfl ?_
 rw [hcp]
 refine es (ra4 rfl rfl rfl rfl)<|C6<|s0<|qm rfl<|A0 (A9n hGv rfl) rfl<|qm rfl<|es (ra7 rfl rfl rfl rfl rfl rfl rfl)<|C4<|wl (fun x=>[(1,.ptr bS 0),(2,.ptr bY 0),(3,.asl bp p.length),(4,.ptr (G.length + 2) 0),(20,.asl bp p.length),(21,.i p.length),(22,.i x.2)]) (fun (_:Unit) x=>[.arr 3 false (p.map A8),.arr 3 false [],.cells (fnC (.asl (G.length + 0) p0.length) x.1 0)]) 3 (fun r e s' H'=>PX 2 [(1,.ptr bS 0),(2,.ptr bY 0),(3,.asl bp p.length),(4,.ptr (G.length + 2) 0)] (G++[.arr 3 false (p.map A8),.arr 3 false [],.cells (fnC (.asl (G.length + 0) p0.length) r 0)]) e s' H') () hz rfl rfl (fun _ _=>rfl) (fun _=>rfl) rfl (fun _=>bdc (A2k h1) (bdc (A2k hY) (bdc hGv.bd (bdc (R0 rfl) (bdc hGv.bd (bdc A4 (bdc A4 bdn))))))) (fun _ x o hs=>?_) ?_
 ·obtain ⟨⟨w,cc,hd⟩,i⟩:=x
  unfold C0n at hs
  refine s0<|A0 (L5 rfl rfl) rfl<|es (ra8 rfl rfl rfl rfl rfl rfl rfl rfl)<|C6<|wi hs rfl (fun hc1 hs=>?_) fun hc1 hs=>?_
  ·refine oB hs fun u hu hs=>oB hs fun pd hpd hs=>oB hs fun ow how hs=>oB hs fun bb hbb hs=>?_
   refine C9<|C6<|C4<|sg 3 rfl<|qm rfl<|A0 (A9m hGv hu rfl rfl) rfl<|A0 (B1p hGv hu rfl) rfl<|A0 G8 rfl<|qm rfl<|M4 (E4 (ds:=A8 u) rfl rfl rfl rfl (D9 rfl) rfl) rfl<|es (ra9 rfl rfl rfl rfl rfl rfl rfl rfl rfl)<|s0<|A0 (E9 rfl h1 rfl) rfl<|qm rfl<|A0 (E5 rfl rfl rfl) rfl<|B8 (rs:=[.i pd.1,.i pd.2]) rfl rfl (A2 rfl (A2 rfl (A2 (D8 rfl) B5))) ((Q6 (a0:=shw t days) (D3 h2 _) hpd).frz)<|qm rfl<|A0 (A7 rfl rfl) rfl<|A0 (A7 rfl rfl) rfl<|qm rfl<|qm rfl<|es (ra10 rfl rfl rfl rfl rfl rfl rfl rfl rfl rfl)<|s0<|A0 (C3 rfl) rfl<|A0 (B7 (x:=.i cc) rfl rfl rfl) rfl<|qm rfl<|A0 (G6 rfl rfl) rfl<|A0 (C3 rfl) rfl<|M4 (E4 (ds:=fnC (.asl (G.length + 0) p0.length) ⟨w,w64 (cc + pd.1),hd⟩ 0) rfl rfl rfl rfl (D9 rfl) rfl) rfl<|es (ra9 rfl rfl rfl rfl rfl rfl rfl rfl rfl)<|s0<|qm rfl<|A0 (C3 rfl) rfl<|A0 (B7 (x:=.i u.Gown) rfl rfl rfl) rfl<|A0 (G6 rfl rfl) rfl<|A0 (C3 rfl) rfl<|A0 (C4e (e:=Ar3.l hd) rfl rfl rfl how) rfl<|M4 (C4l (f:=cI) (e:=Ar3.l hd) (e2:=Ar3.l (hd.set i (w64 (u.Gown + 1)))) (z:=w64 (u.Gown + 1)) (ds:=fnC (.asl (G.length + 0) p0.length) ⟨w,w64 (cc + pd.1),hd.set i (w64 (u.Gown + 1))⟩ 0) rfl rfl rfl rfl rfl rfl (fun _=>rfl) how (Ar3.set_l how) rfl (D9 rfl)) rfl<|es (ra8 rfl rfl rfl rfl rfl rfl rfl rfl)<|s0<|A0 (E5 rfl rfl rfl) rfl<|S3 (rs:=[(.agg (A8 bb))]) rfl rfl A0t B5 ((A1m hbb).frz)<|A0 (B9r (a:=A8 u) (b:=A8 bb) rfl rfl rfl rfl (R8 (R8 (R8 A7u)))) rfl<|es (ra8 rfl rfl rfl rfl rfl rfl rfl rfl)<|wi hs rfl (fun hc2 hs=>?_) fun hc2 hs=>?_
   ·refine r0<|A0 (C3 rfl) rfl<|A0 (B7 (x:=.i w) rfl rfl rfl) rfl<|A0 (G6 rfl rfl) rfl<|A0 (C3 rfl) rfl<|M4 (E4 (ds:=fnC (.asl (G.length + 0) p0.length) ⟨w64 (w + 1),w64 (cc + pd.1),hd.set i (w64 (u.Gown + 1))⟩ 0) rfl rfl rfl rfl (D9 rfl) rfl) rfl<|en (ra7 rfl rfl rfl rfl rfl rfl rfl)<|r0<|A0 (G6 rfl rfl) rfl<|qm rfl<|en (ra7 rfl rfl rfl rfl rfl rfl rfl) ?_
    cases hs
    exact lnT () rfl (su7 rfl rfl rfl rfl rfl rfl rfl)
   ·refine C9<|r0<|A0 (G6 rfl rfl) rfl<|qm rfl<|en (ra7 rfl rfl rfl rfl rfl rfl rfl) ?_
    cases hs
    exact lnT () rfl (su7 rfl rfl rfl rfl rfl rfl rfl)
  ·refine K4 ?_
   obtain rfl:=os hs
   exact lx rfl px (su4 rfl rfl rfl rfl)
 ·rintro e s' H' - ⟨rfl,rfl,rfl⟩
  have hcl:=hcall c [.arr 3 true (p.map A8),.arr 3 false [],.cells (fnC (.asl (G.length + 0) p0.length) z sh.1)] (by intro o ho; simp at ho; rcases ho with rfl | rfl | rfl <;> rfl) (B6o hsc (by simp)) rfl
  refine s0<|A0 (E9 rfl h1 rfl) rfl<|qm rfl<|N2 (R3 (rs:=[.i sh.1,.i sh.2]) rfl rfl ((A57 (a0:=shw t days) (D3 h2 _) hGv.app hsh).frz)) rfl<|qm rfl<|A0 (A7 rfl rfl) rfl<|A0 (A7 rfl rfl) rfl<|A0 (C3 rfl) rfl<|M4 (E4 (ds:=fnC (.asl (G.length + 0) p0.length) z sh.1) rfl rfl rfl rfl (D9 rfl) rfl) rfl<|es (ra2 rfl rfl)<|s0<|A0 (E9 rfl hY rfl) rfl<|A0 (A00 (ds:=fnC (.asl (G.length + 0) p0.length) z sh.1) rfl rfl rfl rfl) rfl<|N2 (N4 (rs:=[.b ok]) rfl rfl (A2 (C5o (A3x (C7w rfl (by rw [List.length_map]; exact hlp.symm)) (A3x rfl (A3x rfl (A3x rfl (A3x rfl (A3x rfl (A3x rfl C7u)))))))) B5) hcl rfl) rfl<|A0 (B75 rfl rfl) rfl<|es (ra1 rfl) ?_
  cases ok with
  | true=>exact N6 rfl rfl<|C9 ⟨rfl,_,rfl⟩
  | false=>exact M3 rfl rfl<|C7 ⟨rfl,_,rfl⟩
end
theorem C5r {N:Nat} {l:A1} (h:∀o ∈ l,o.anc = []):grL N l = true:= by
 unfold grL
 rw [List.all_eq_true]
 intro o ho
 rw [h o ho]; rfl
def A90 (t:PaShow) (days:List Int) (bS b:Nat) (H:A1):Prop:=hcells H bS = some [.ptr b 0]∧hcells H b = some (A0j t days)
theorem A90.app {t:PaShow} {days:List Int} {bS b:Nat} {H L:A1} (h:A90 t days bS b H):A90 t days bS b (H++L):=⟨D3 h.1 _,D3 h.2 _⟩
theorem C22 {t:PaShow} {days:List Int} {bS b:Nat}:B1w tab 62 [.ptr bS 0] shF (A90 t days bS b) (B61 t days):= by
 intro σ ρ Hm N hN hpre y hyb hyc body hy a0 o ho c hc
 unfold B61 at ho
 have h1:∀x,hcells (Hm x) bS = some [.ptr b 0]:=fun x=>(hpre x).1
 have ht:∀x,hcells (Hm x) b = some (A0j t days):=fun x=>(hpre x).2
 have e:=hN (.inl a0)
 have q0:∀z L,hcells (Hm z++(AO.cells [y] :: L)) (N + 0) = some [y]:=fun z L=>by rw [← hN z]; exact D5 rfl
 have q1:∀z L,hcells (Hm z++(AO.cells [y] :: .cells [.ptr b 0] :: L)) (N + 1) = some [.ptr b 0]:=fun z L=>by rw [← hN z]; exact D5 rfl
 have htk:∀z L,(Hm z++L).take N = Hm z:=fun z L=>by rw [← hN z]; exact List.take_left
 have hl2:∀z,(Hm z++[AO.cells [y],.cells [.ptr b 0]]).length = N + 2:=fun z=>by rw [List.length_append,hN]; rfl
 have key:WP tab c62 [(0,y),(1,.ptr bS 0)] (Hm (.inl a0)++[]) ⟨(Hm (.inl a0)).length,c.cur :: c.outer⟩ (A4r (Hm (.inl a0)) (Hm o) [] []):= by
  refine sg 0 rfl<|A0 (F9 rfl hyc rfl) rfl<|es (ra2 rfl rfl)<|s0<|A0 (E9 rfl (h1 _) rfl) rfl<|A1y (as2:=[.ptr b 0]) (H1:=Hm (.inl a0)++[.cells [y]]) rfl rfl (A2 rfl B5) rfl rfl rfl (A5z rfl)<|sg 1 rfl<|A0 (F9 (cs:=[.ptr b 0]) rfl rfl rfl) rfl<|qm rfl<|es (ra1 rfl)<|s0<|A0 (A0q rfl rfl) rfl<|qm rfl<|es (ra1 rfl)<|C7<|InlQ.mk trivial ⟨_,_,_,[(.fn (.func 77) [] [(.ptr ((Hm (.inl a0)).length + 1) 0)])],_,(A9 rfl C0),(A5 rfl B9),(A5x (Q3 (A82 (Q3 (A2l rfl)))) (A5w rfl A9b)),?_⟩
  refine es (ra3 rfl rfl rfl)<|C4 ?_
  refine A8v (it:=B1s t days) (sh:=shP) (pre:=A90 t days ((Hm (.inl a0)).length + 1) b) (C42 (t:=t) (days:=days) (bS:=(Hm (.inl a0)).length + 1) (b:=b)) (K:=N + 2) [(1,.ptr bS 0),(2,.ptr ((Hm (.inl a0)).length + 0) 0)] (fun z=>Hm (.inl z)++[.cells [y],.cells [.ptr b 0]]) (fun r=>Hm (.inr r)++[.cells [y],.cells [.ptr b 0]]) (fun _=>.ret) ho (fun _=>rfl) rfl (fun S hS=>L7 (live:=[1,2]) rfl (by decide) (Sub.trans (su2 rfl rfl) hS)) rfl (fun x=>hl2 _) (fun x=>hl2 _) ?_ ?_ ?_ ?_
  ·rw [e]
   exact ⟨fun x z=>⟨D3 (q1 _ _) _,D3 (D3 (ht _) _) _⟩,fun x z=>⟨D3 (q1 _ _) _,D3 (D3 (ht _) _) _⟩⟩
  ·exact A5j hc (by simp) (by simp)
  ·intro c' p s o' L v hsc hgr hv hbo y0 y1 hy0 hy1
   obtain ⟨j,rfl,hj⟩:=hv
   refine oB hbo fun x hx hbo=>?_
   have hGl:(Hm (.inl s)++[AO.cells [y],.cells [.ptr b 0]]++y1 :: L).length = N + 2 + 1 + L.length:= by rw [List.length_append,hl2]; simp; omega
   have e4:∀z (l:List AO),Hm z++[AO.cells [y],.cells [.ptr b 0]]++y1 :: L++l = Hm z++(AO.cells [y] :: .cells [.ptr b 0] :: y1 :: (L++l)):=fun z l=>by simp
   refine r0<|qm rfl<|en (ra3 rfl rfl rfl) ⟨rfl,L,rfl,?_⟩
   have hharr:harr (Hm (.inl s)++[AO.cells [y],.cells [.ptr b 0]]++y1 :: L) (N + 2 + 1 + j) = some (3,false,p.map A8):= by
    have h3:(Hm (.inl s)++[AO.cells [y],.cells [.ptr b 0]]++[y1]).length = N + 2 + 1:= by rw [List.length_append,hl2]; rfl
    rw [show Hm (.inl s)++[AO.cells [y],.cells [.ptr b 0]]++y1 :: L = (Hm (.inl s)++[AO.cells [y],.cells [.ptr b 0]]++[y1])++L by simp,← h3]
    exact L4 hj
   refine X2 (C21 (t:=t) (days:=days) (x:=x) (ok:=o'.isLeft) (GE:=Hm o'++[AO.cells [y],.cells [.ptr b 0]]++y1 :: L) (y:=y) ⟨_,_,rfl,hharr⟩ (D3 (D3 (h1 _) _) _) (D3 (D3 (ht _) _) _) (by rw [e]; exact D3 (q0 _ _) _) (by rw [hGl]; exact Nat.le_refl _) hx (fun c2 l hl hs2 hc2=>?_) (B6o hsc (by rw [hGl]; simp [hN]; omega))) ?_
   ·have hsc3:O8 c2 (Hm (.inl s)++(AO.cells [y] :: .cells [.ptr b 0] :: y1 :: (L++l))) = true:= by rw [hc2,← e4]; exact hs2
    rw [e4,e4]
    exact hy hsc3 (A3c rfl (A3c rfl (A3c hy1 (B1l (B7n (by omega) hgr) (C5r hl))))) rfl hbo
   ·rintro e1 s1 H1 ⟨he,l,rfl⟩
    have htk2:∀z,(Hm z++[AO.cells [y],.cells [.ptr b 0]]++y1 :: L++l).take (N + 2 + 1 + L.length) = Hm z++[AO.cells [y],.cells [.ptr b 0]]++y1 :: L:=fun z=>by
     have:(Hm z++[AO.cells [y],.cells [.ptr b 0]]++y1 :: L).length = N + 2 + 1 + L.length:= by rw [List.length_append,hl2]; simp; omega
     rw [← this]; exact List.take_left
    cases o' with
    | inl s'=>exact ⟨he,htk2 _⟩
    | inr r=>exact ⟨he,htk2 _⟩
  ·rw [e]
   cases o with
   | inl s' =>
    show A4r _ _ _ _ .normal _ _
    refine B3i trivial rfl rfl rfl ?_
    rw [List.append_assoc,e]; exact htk _ _
   | inr r =>
    show A4r _ _ _ _ .ret _ _
    refine B3i trivial rfl rfl rfl ?_
    rw [List.append_assoc,e]; exact htk _ _
 rw [List.append_nil] at key
 exact V8 (aq:=[y,.ptr bS 0]) rfl rfl rfl key
def B5h (t:PaShow) (days:List Int) (σ ρ:Type) (body:pawn_found→σ→Option (σ ⊕ ρ)) (s:σ):Option (σ ⊕ ρ) :=
 B61 t days σ ρ (fun x s=>if (decide (x.short_ > 0)) = true then some (.inl s) else body x s) s
theorem B9x {t:PaShow} {days:List Int} {bS b:Nat}:B1w tab 55 [.ptr bS 0] shF (A90 t days bS b) (B5h t days):= by
 intro σ ρ Hm N hN hpre y hyb hyc body hy a0 o ho c hc
 unfold B5h at ho
 have h1:∀x,hcells (Hm x) bS = some [.ptr b 0]:=fun x=>(hpre x).1
 have ht:∀x,hcells (Hm x) b = some (A0j t days):=fun x=>(hpre x).2
 have e:=hN (.inl a0)
 have q0:∀z L,hcells (Hm z++(AO.cells [y] :: L)) (N + 0) = some [y]:=fun z L=>by rw [← hN z]; exact D5 rfl
 have q1:∀z L,hcells (Hm z++(AO.cells [y] :: .cells [.ptr b 0] :: L)) (N + 1) = some [.ptr b 0]:=fun z L=>by rw [← hN z]; exact D5 rfl
 have htk:∀z L,(Hm z++L).take N = Hm z:=fun z L=>by rw [← hN z]; exact List.take_left
 have hl2:∀z,(Hm z++[AO.cells [y],.cells [.ptr b 0]]).length = N + 2:=fun z=>by rw [List.length_append,hN]; rfl
 have key:WP tab c55 [(0,y),(1,.ptr bS 0)] (Hm (.inl a0)++[]) ⟨(Hm (.inl a0)).length,c.cur :: c.outer⟩ (A4r (Hm (.inl a0)) (Hm o) [] []):= by
  refine sg 0 rfl<|A0 (F9 rfl hyc rfl) rfl<|es (ra2 rfl rfl)<|C1l<|C6<|C9<|s0<|A0 (E9 rfl (h1 _) rfl) rfl<|A1y (as2:=[.ptr b 0]) (H1:=Hm (.inl a0)++[.cells [y]]) rfl rfl (A2 rfl B5) rfl rfl rfl (A5z rfl)<|sg 1 rfl<|A0 (F9 (cs:=[.ptr b 0]) rfl rfl rfl) rfl<|qm rfl<|es (ra1 rfl)<|s0<|A0 (A0q rfl rfl) rfl<|qm rfl<|es (ra1 rfl)<|C7<|InlQ.mk trivial ⟨_,_,_,[(.fn (.func 62) [] [(.ptr ((Hm (.inl a0)).length + 1) 0)])],_,(A9 rfl C0),(A5 rfl B9),(A5x (Q3 (A82 (Q3 (A2l rfl)))) (A5w rfl A9b)),?_⟩
  refine es (ra2 rfl rfl)<|C4 ?_
  refine A8v (it:=B61 t days) (sh:=shF) (pre:=A90 t days ((Hm (.inl a0)).length + 1) b) (C22 (t:=t) (days:=days) (bS:=(Hm (.inl a0)).length + 1) (b:=b)) (K:=N + 2) [(2,.ptr ((Hm (.inl a0)).length + 0) 0)] (fun z=>Hm (.inl z)++[.cells [y],.cells [.ptr b 0]]) (fun r=>Hm (.inr r)++[.cells [y],.cells [.ptr b 0]]) (fun _=>.ret) ho (fun _=>rfl) rfl (fun S hS=>L7 (live:=[2]) rfl (by decide) (Sub.trans (su1 rfl) hS)) rfl (fun x=>hl2 _) (fun x=>hl2 _) ?_ ?_ ?_ ?_
  ·rw [e]
   exact ⟨fun x z=>⟨D3 (q1 _ _) _,D3 (D3 (ht _) _) _⟩,fun x z=>⟨D3 (q1 _ _) _,D3 (D3 (ht _) _) _⟩⟩
  ·exact A5j hc (by simp) (by simp)
  ·intro c' x s o' L v hsc hgr hv hbo y0 y1 hy0 hy1
   obtain rfl:v = .agg (B2 x):=hv
   have hGl:∀z z1,(Hm z++[AO.cells [y],.cells [.ptr b 0]]++z1 :: L).length = N + 2 + 1 + L.length:=fun z z1=>by rw [List.length_append,hl2]; simp; omega
   have e4:∀z (l:List AO),Hm z++[AO.cells [y],.cells [.ptr b 0]]++y1 :: L++l = Hm z++(AO.cells [y] :: .cells [.ptr b 0] :: y1 :: (L++l)):=fun z l=>by simp
   have htk2:∀z l,(Hm z++[AO.cells [y],.cells [.ptr b 0]]++y1 :: L++l).take (N + 2 + 1 + L.length) = Hm z++[AO.cells [y],.cells [.ptr b 0]]++y1 :: L:=fun z l=>by
    rw [← hGl z y1]; exact List.take_left
   refine Q9<|rg 0 rfl<|A0 G8 rfl<|M4 (E4 (ds:=B2 x) rfl rfl rfl rfl (W7 (by rw [hGl]; exact Nat.le_add_right _ _)) rfl) rfl<|en (ra2 rfl rfl) ⟨rfl,L++[.cells (B2 x)],by simp,?_⟩
   refine B03 (show _ = (Hm (.inl s)++[AO.cells [y],.cells [.ptr b 0]]++y1 :: L)++[.cells (B2 x)] by simp) ?_
   have q8:ev [(2,AV.ptr ((Hm (.inl a0)).length + 0) 0),(3,.ptr ((Hm (.inl s)++[AO.cells [y],.cells [.ptr b 0]]++y0 :: L).length + (0 + 0)) 0)] (.t 3) = some (.ptr ((Hm (.inl s)++[AO.cells [y],.cells [.ptr b 0]]++y1 :: L).length + 0) 0):= by
    show some _ = some _
    rw [hGl,hGl]
   rw [show (AV.ptr ((Hm (.inl s)++[AO.cells [y],.cells [.ptr b 0]]++y0 :: L).length + (0 + 0)) 0) = .ptr ((Hm (.inl s)++[AO.cells [y],.cells [.ptr b 0]]++y1 :: L).length + 0) 0 by rw [hGl,hGl]]
   refine C4<|C6<|s0<|A0 (C3 rfl) rfl<|A0 (B7 (x:=.i x.short_) rfl rfl rfl) rfl<|A0 (A4m rfl rfl) rfl<|es (ra3 rfl rfl rfl)<|wi hbo rfl (fun hc2 hbo=>?_) fun hc2 hbo=>?_
   ·cases hbo
    exact K4 ⟨rfl,htk2 _ _⟩
   ·have hcl:H6 tab ⟨N + 2 + 1 + L.length,c'⟩ (Hm (.inl s)++[AO.cells [y],.cells [.ptr b 0]]++y1 :: L++[.cells (B2 x)]) y [.agg (B2 x)] [.b o'.isLeft] (Hm o'++[AO.cells [y],.cells [.ptr b 0]]++y1 :: L++[.cells (B2 x)]):= by
     have hsc3:O8 ⟨N + 2 + 1 + L.length,c'⟩ (Hm (.inl s)++(AO.cells [y] :: .cells [.ptr b 0] :: y1 :: (L++[.cells (B2 x)]))) = true:= by
      rw [← e4]
      exact B6o hsc (by simp only [List.length_append,List.length_cons,List.length_nil]; omega)
     rw [e4,e4]
     exact hy hsc3 (A3c rfl (A3c rfl (A3c hy1 (B1l (B7n (by omega) hgr) rfl)))) rfl hbo
    refine C9<|s0<|A0 (E9 (x:=y) rfl (by rw [e]; exact D3 (q0 _ _) _) rfl) rfl<|A0 (E5 rfl rfl rfl) rfl<|N2 (N4 (rs:=[.b o'.isLeft]) rfl rfl (A2 (D8 rfl) B5) hcl rfl) rfl<|A0 (B75 rfl rfl) rfl<|es (ra1 rfl) ?_
    cases o' with
    | inl s'=>exact N6 rfl rfl<|C9 ⟨rfl,htk2 _ _⟩
    | inr r=>exact M3 rfl rfl<|C7 ⟨rfl,htk2 _ _⟩
  ·rw [e]
   cases o with
   | inl s' =>
    show A4r _ _ _ _ .normal _ _
    refine B3i trivial rfl rfl rfl ?_
    rw [List.append_assoc,e]; exact htk _ _
   | inr r =>
    show A4r _ _ _ _ .ret _ _
    refine B3i trivial rfl rfl rfl ?_
    rw [List.append_assoc,e]; exact htk _ _
 rw [List.append_nil] at key
 exact V8 (aq:=[y,.ptr bS 0]) rfl rfl rfl key
end Pw
end
section
set_option maxRecDepth 100000
set_option maxHeartbeats 0
namespace Pw
open Go Am Go.Proofs.Ytjpjdglddmhplaa.Cd
def fnd0:pawn_found:=⟨[],0,0,0,⟨0,0,0⟩⟩
def C7a (g:pawn_found→pawn_found→Option Int) (x:pawn_found) (s:pawn_found × Bool):Option ((pawn_found × Bool) ⊕ Unit) :=
 (if (!s.2) = true then some true else (g x s.1).bind fun r=>some (decide (r < 0))).bind fun z =>
 if z = true then some (.inl (x,true)) else some (.inl s)
abbrev It:=∀ (σ ρ:Type),(pawn_found→σ→Option (σ ⊕ ρ))→σ→Option (σ ⊕ ρ)
def B65 (it:It) (g:pawn_found→pawn_found→Option Int):Option (pawn_found × Bool) :=
 (it (pawn_found × Bool) Unit (C7a g) (fnd0,false)).bind fun o=>match o with
  | .inl s=>some s
  | .inr _=>none
def bM (ig:Nat) (s:pawn_found × Bool):List AO:=[.cells [.fn (.func ig) [] []],.cells (B2 s.1),.cells [.b s.2]]
theorem B5y {c:Sc} {H:A1} {i ig bS b:Nat} {t:PaShow} {days:List Int} {it:It} {g:pawn_found→pawn_found→Option Int} {r:pawn_found × Bool} (hit:B1w tab i [.ptr bS 0] shF (A90 t days bS b) it)
  (hg:∀{c:Sc} {H:A1} {x y:pawn_found} {r:Int},g x y = some r→T8 tab c H (.fn (.func ig) [] []) [.agg (B2 x),.agg (B2 y)] [.i r]) (hpre:A90 t days bS b H) (hscv:O8 c H = true) (h:B65 it g = some r) :
  T8 tab c H (.fn (.func 30) [] []) [.fn (.func i) [] [.ptr bS 0],.fn (.func ig) [] []] [.agg (B2 r.1),.b r.2]:= by
 unfold B65 at h
 refine oB h fun o ho h=>?_
 have hl3:∀s,(H++bM ig s).length = H.length + 3:=fun s=>by rw [List.length_append]; rfl
 refine cF rfl rfl<|sg 0 rfl<|A0 (F9 (cs:=[.fn (.func ig) [] []]) rfl rfl rfl) rfl<|A0 G8 rfl<|A0 G8 rfl<|es (ra4 rfl rfl rfl rfl)<|C6<|s0<|qm rfl<|es (ra4 rfl rfl rfl rfl)<|C4 ?_
 refine A8v (it:=it) (sh:=shF) (pre:=A90 t days bS b) hit (K:=H.length + 3) [(3,.ptr (H.length + 0) 0),(4,.ptr (H.length + 1) 0),(5,.ptr (H.length + 2) 0)] (fun s=>H++bM ig s) (fun (_:Unit)=>H++bM ig (fnd0,false)) (fun _=>.ret) ho (fun _=>rfl) rfl (fun S hS=>L7 (live:=[3,4,5]) rfl (by decide) (Sub.trans (su3 rfl rfl rfl) hS)) rfl (fun _=>hl3 _) (fun _=>hl3 _) ⟨fun _ _=>by rw [List.append_assoc]; exact hpre.app,fun _ _=>by rw [List.append_assoc]; exact hpre.app⟩ (B3k hscv) (fun c' x s o' L v hsc hgr hv hbo y0 y1 hy0 hy1=>?_) ?_
 ·obtain rfl:v = .agg (B2 x):=hv
  have hGl:∀s z,(H++bM ig s++z :: L).length = H.length + 3 + 1 + L.length:=fun s z=>by rw [List.length_append,hl3]; simp; omega
  refine Q9<|rg 0 rfl<|A0 G8 rfl<|M4 (E4 (ds:=B2 x) rfl rfl rfl rfl (W7 (by rw [hGl]; exact Nat.le_add_right _ _)) rfl) rfl<|en (ra4 rfl rfl rfl rfl) ⟨rfl,L++[.cells (B2 x)],by simp,?_⟩
  refine B03 (show _ = H++(.cells [.fn (.func ig) [] []] :: .cells (B2 s.1) :: .cells [.b s.2] :: y1 :: (L++[AO.cells (B2 x)])) by simp [bM]) ?_
  rw [show (AV.ptr ((H++bM ig s++y0 :: L).length + (0 + 0)) 0) = .ptr (H.length + 3 + 1 + L.length) 0 by rw [hGl]; rfl]
  have q6:∀s':pawn_found × Bool,hcells (H++(.cells [.fn (.func ig) [] []] :: .cells (B2 s'.1) :: .cells [.b s'.2] :: y1 :: (L++[AO.cells (B2 x)]))) (H.length + 3 + 1 + L.length) = some (B2 x):=fun s'=>by
   rw [show H++(.cells [.fn (.func ig) [] []] :: .cells (B2 s'.1) :: .cells [.b s'.2] :: y1 :: (L++[AO.cells (B2 x)])) = (H++bM ig s'++y1 :: L)++[AO.cells (B2 x)] by simp [bM],← hGl s' y1]
   exact D5 (j:=0) rfl
  have htk:∀(s':pawn_found × Bool),(H++(.cells [.fn (.func ig) [] []] :: .cells (B2 s'.1) :: .cells [.b s'.2] :: y1 :: (L++[AO.cells (B2 x)]))).take (H.length + 3 + 1 + L.length) = H++bM ig s'++y1 :: L:=fun s'=>by
   rw [show H++(.cells [.fn (.func ig) [] []] :: .cells (B2 s'.1) :: .cells [.b s'.2] :: y1 :: (L++[AO.cells (B2 x)])) = (H++bM ig s'++y1 :: L)++[AO.cells (B2 x)] by simp [bM],← hGl s' y1]
   exact List.take_left
  unfold C7a at hbo
  refine oB hbo fun z hz hbo=>?_
  refine C4<|s0<|A0 (B7 (x:=.b s.2) rfl rfl rfl) rfl<|A0 (B75 rfl rfl) rfl<|qm rfl<|gp 6 17 (.b z) 11 rfl rfl (fun hc1=>?_) (fun hc1=>?_) ?_
  ·obtain rfl:=os (bt hz hc1)
   exact nF rfl hc1 rfl<|nF rfl hc1 rfl<|nF rfl hc1 rfl<|K6 (F4 rfl (by rw [hc1]; rfl)) rfl<|nF rfl hc1 rfl<|A0 (D1 rfl hc1 rfl) rfl<|ge 6 rfl rfl rfl
  ·refine oB (bf hz hc1) fun q hq hz=>?_
   obtain rfl:=os hz
   exact gF rfl hc1<|A0 (B7 (x:=.fn (.func ig) [] []) rfl rfl rfl) rfl<|gF rfl hc1<|A0 (A3e (ds:=B2 x) rfl (q6 s) rfl rfl) rfl<|gF rfl hc1<|A0 (A00 (ds:=B2 s.1) rfl rfl rfl rfl) rfl<|gF rfl hc1<|B8 (rs:=[.i q]) rfl rfl (A2 (D8 rfl) (A2 (D8 rfl) B5)) (hg hq)<|gF rfl hc1<|A0 (L5 rfl rfl) rfl<|A0 (D0 rfl hc1 rfl) rfl<|ge 6 rfl rfl rfl
  ·refine es (ra4 rfl rfl rfl rfl)<|wi hbo rfl (fun hc2 hbo=>?_) fun hc2 hbo=>?_
   ·cases hbo
    refine r0<|A0 (A3e (ds:=B2 x) rfl (q6 s) rfl rfl) rfl<|M4 (E4 (j:=1) (ds:=B2 x) rfl rfl rfl rfl (D9 rfl) rfl) rfl<|M4 (E4 (j:=2) (ds:=[.b true]) rfl rfl rfl rfl (D9 rfl) rfl) rfl<|en .n ⟨rfl,htk (x,true)⟩
   ·cases hbo
    exact C9 ⟨rfl,htk s⟩
 ·rcases o with s | s
  ·obtain rfl:=os h
   refine B03 (show _ = H++[.cells [.fn (.func ig) [] []],.cells (B2 s.1),.cells [.b s.2],.dead] by simp [bM]) ?_
   refine s0<|A0 (A00 (ds:=B2 s.1) rfl rfl rfl rfl) rfl<|C1d [2] [.cells [.fn (.func ig) [] []],.cells (B2 s.1),.cells [.b s.2],.dead] (V1 [] rfl (B5q rfl B2f J2) rfl rfl) (seen0 rfl) (E4 (j:=1) (ds:=B2 s.1) rfl rfl rfl rfl (D9 rfl) rfl) rfl rfl rfl<|L6 [] (V1 [] rfl J2 rfl rfl) (C1j (b:=H.length + 2) rfl (B5m (A7s _ rfl) B8o)) (B7 (x:=.b s.2) rfl rfl rfl) rfl<|M4 (E4 (j:=2) (ds:=[.b s.2]) rfl rfl rfl rfl (D9 rfl) rfl) rfl<|es (ra2 rfl rfl)<|C7 ?_
   exact ⟨_,retq trivial (A54 (A00 (ds:=B2 s.1) rfl rfl rfl rfl) (A54 (B7 (x:=.b s.2) rfl rfl rfl) C0)) (A5 (A9s rfl) (A5 rfl B9)) (A3 (A81 rfl) (A3 A4 B1)),rfl⟩
  ·cases h
end Pw
namespace Am
open Go
theorem B1w.it {α:Type} {T:Tab} {i:Nat} {fc:List AV} {ea:α→AV} {pre:A1→Prop} {it:∀(σ ρ:Type),(α→σ→Option (σ ⊕ ρ))→σ→Option (σ ⊕ ρ)} (h:B1w T i fc (fun _ _ x v=>v = ea x) pre it):C9g T i fc ea pre it :=
 fun Hm N h1 h2 y hb hc body hy _ _ ho _ hs=>h Hm N h1 h2 y hb hc body (fun a b d e=>by subst d; exact hy a b e) ho hs
end Am
end
section
set_option maxRecDepth 100000
set_option maxHeartbeats 0
namespace Pw
open Go Am Go.Proofs.Ytjpjdglddmhplaa.Cd
def A0z (a0:Int):Option Bool :=
 some (a0 != a0)
theorem A3f {c:Sc} {H:A1} {a0:Int} {r:Bool} (h:A0z a0 = some r) :
  F2 tab c H (.fn (.func 104) [] []) [.i a0] [.b r]:= by
 unfold A0z at h
 refine cE rfl rfl<|s0<|qm rfl<|es (ra1 rfl)<|s0<|qm rfl<|qm rfl<|A0 (P6 rfl rfl) rfl<|qm rfl<|es (ra1 rfl)<|C7 ?_
 obtain rfl:=os h
 exact retq trivial (A9 rfl C0) (A5 rfl B9) (A3 A4 B1)
def A3t (a0:Int) (a1:Int):Option Bool :=
 (A0z a0).bind fun x1 =>
 (if x1 = true then
  (A0z a1).bind fun x3 =>
  some (!x3)
 else
  some false).bind fun x4 =>
 some (x4 || (decide (a0 < a1)))
theorem B05 {c:Sc} {H:A1} {a0:Int} {a1:Int} {r:Bool} (h:A3t a0 a1 = some r) :
  F2 tab c H (.fn (.func 90) [] []) [.i a0,.i a1] [.b r]:= by
 unfold A3t at h
 refine cE rfl rfl<|s0<|qm rfl<|es (ra2 rfl rfl)<|s0<|oB h fun x1 hx1 h=>oB h fun x4 hx4 h=>qm rfl<|B8 (rs:=[.b x1]) rfl rfl (A2 rfl B5) ((A3f hx1).frz)<|qm rfl<|gp 4 11 (.b x4) 7 rfl rfl (fun hg2=>?_) (fun hg2=>?_) ?_
 ·refine oB (bt hx4 hg2) fun x3 hx3 hx4=>?_
  obtain rfl:=os hx4
  exact gT rfl hg2<|qm rfl<|gT rfl hg2<|B8 (rs:=[.b x3]) rfl rfl (A2 rfl B5) ((A3f hx3).frz)<|gT rfl hg2<|A0 (A5m rfl) rfl<|A0 (D1 rfl hg2 rfl) rfl<|ge 4 rfl rfl rfl
 ·obtain rfl:=os (bf hx4 hg2)
  exact nT rfl hg2 rfl<|K6 (F4 rfl (by rw [hg2]; rfl)) rfl<|nT rfl hg2 rfl<|A0 (D0 rfl hg2 rfl) rfl<|ge 4 rfl rfl rfl
 refine qm rfl<|gp 4 16 (.b (x4 || (decide (a0 < a1)))) 12 rfl rfl (fun hg5=>?_) (fun hg5=>?_) ?_
 ·exact nF rfl hg5 rfl<|nF rfl hg5 rfl<|nF rfl hg5 rfl<|A0 (D1 rfl hg5 rfl) rfl<|ge 4 (by rw [hg5]; rfl) rfl rfl
 ·exact gF rfl hg5<|qm rfl<|gF rfl hg5<|qm rfl<|gF rfl hg5<|A0 (L5 rfl rfl) rfl<|A0 (D0 rfl hg5 rfl) rfl<|ge 4 (by rw [hg5]; rfl) rfl rfl
 refine qm rfl<|es (ra1 rfl)<|C7 ?_
 obtain rfl:=os h
 exact retq trivial (A9 rfl C0) (A5 rfl B9) (A3 A4 B1)
def A1c (a0:Int):Option Int :=
 (if (decide (a0 ≥ 4294967296)) = true then
  (C48 .u64 a0 32).bind fun x3 =>
  some (x3,32)
  else
  some (a0,0)).bind fun (p1:(Int × Int)) =>
 (if (decide (p1.1 ≥ 65536)) = true then
  (C48 .u64 p1.1 16).bind fun x6 =>
  some (x6,(w64 (p1.2 + 16)))
  else
  some (p1.1,p1.2)).bind fun (p4:(Int × Int)) =>
 if (decide (p4.1 ≥ 256)) = true then
  (C48 .u64 p4.1 8).bind fun x8 =>
  (C1k (ByteArray.mk #[0,1,2,2,3,3,3,3,4,4,4,4,4,4,4,4,5,5,5,5,5,5,5,5,5,5,5,5,5,5,5,5,6,6,6,6,6,6,6,6,6,6,6,6,6,6,6,6,6,6,6,6,6,6,6,6,6,6,6,6,6,6,6,6,7,7,7,7,7,7,7,7,7,7,7,7,7,7,7,7,7,7,7,7,7,7,7,7,7,7,7,7,7,7,7,7,7,7,7,7,7,7,7,7,7,7,7,7,7,7,7,7,7,7,7,7,7,7,7,7,7,7,7,7,7,7,7,7,8,8,8,8,8,8,8,8,8,8,8,8,8,8,8,8,8,8,8,8,8,8,8,8,8,8,8,8,8,8,8,8,8,8,8,8,8,8,8,8,8,8,8,8,8,8,8,8,8,8,8,8,8,8,8,8,8,8,8,8,8,8,8,8,8,8,8,8,8,8,8,8,8,8,8,8,8,8,8,8,8,8,8,8,8,8,8,8,8,8,8,8,8,8,8,8,8,8,8,8,8,8,8,8,8,8,8,8,8,8,8,8,8,8,8,8,8,8,8,8,8,8,8,8,8,8,8,8]) (IntKind.u8.wrap x8)).bind fun x9 =>
  some (w64 ((w64 (p4.2 + 8)) + (w64 x9)))
 else
  (C1k (ByteArray.mk #[0,1,2,2,3,3,3,3,4,4,4,4,4,4,4,4,5,5,5,5,5,5,5,5,5,5,5,5,5,5,5,5,6,6,6,6,6,6,6,6,6,6,6,6,6,6,6,6,6,6,6,6,6,6,6,6,6,6,6,6,6,6,6,6,7,7,7,7,7,7,7,7,7,7,7,7,7,7,7,7,7,7,7,7,7,7,7,7,7,7,7,7,7,7,7,7,7,7,7,7,7,7,7,7,7,7,7,7,7,7,7,7,7,7,7,7,7,7,7,7,7,7,7,7,7,7,7,7,8,8,8,8,8,8,8,8,8,8,8,8,8,8,8,8,8,8,8,8,8,8,8,8,8,8,8,8,8,8,8,8,8,8,8,8,8,8,8,8,8,8,8,8,8,8,8,8,8,8,8,8,8,8,8,8,8,8,8,8,8,8,8,8,8,8,8,8,8,8,8,8,8,8,8,8,8,8,8,8,8,8,8,8,8,8,8,8,8,8,8,8,8,8,8,8,8,8,8,8,8,8,8,8,8,8,8,8,8,8,8,8,8,8,8,8,8,8,8,8,8,8,8,8,8,8,8,8]) (IntKind.u8.wrap p4.1)).bind fun x10 =>
  some (w64 (p4.2 + (w64 x10)))
theorem A68 {c:Sc} {H:A1} {a0:Int} {r:Int} (h:A1c a0 = some r) :
  F2 tab c H (.fn (.func 94) [] []) [(.lit (.int .u64 a0))] [.i r]:= by
 unfold A1c at h
 refine cE rfl rfl<|s0<|qm rfl<|es (ra2 rfl rfl)<|C6<|s0<|qm rfl<|A0 (B0a rfl rfl) rfl<|es (ra3 rfl rfl rfl)<|oB h fun p1 hp1 h=>B99 (Q1:=fun e s' H'=>e = .normal∧s' = [(0,(.lit (.int .u64 p1.1))),(2,.i p1.2)]∧H' = (H++[])) ?_ ?_
 ·refine wi hp1 rfl (fun hc2 hp1=>?_) fun hc2 hp1=>?_
  ·refine s0<|oB hp1 fun x3 hx3 hp1=>qm rfl<|A0 (C4k rfl rfl hx3) rfl<|qm rfl<|es (ra1 rfl)<|r0<|qm rfl<|en (ra2 rfl rfl) ?_
   obtain rfl:=os hp1
   exact me (And.intro rfl (And.intro rfl rfl)) (su2 rfl rfl)
  ·refine C9 ?_
   obtain rfl:=os hp1
   exact me (And.intro rfl (And.intro rfl rfl)) (su2 rfl rfl)
 ·rintro e s' H' ⟨rfl,rfl,rfl⟩
  refine C6<|s0<|qm rfl<|A0 (B0a rfl rfl) rfl<|es (ra3 rfl rfl rfl)<|oB h fun p4 hp4 h=>B99 (Q1:=fun e s' H'=>e = .normal∧s' = [(0,(.lit (.int .u64 p4.1))),(2,.i p4.2)]∧H' = (H++[])) ?_ ?_
  ·refine wi hp4 rfl (fun hc5 hp4=>?_) fun hc5 hp4=>?_
   ·refine s0<|oB hp4 fun x6 hx6 hp4=>qm rfl<|A0 (C4k rfl rfl hx6) rfl<|qm rfl<|es (ra2 rfl rfl)<|r0<|qm rfl<|A0 (G6 rfl rfl) rfl<|qm rfl<|en (ra2 rfl rfl) ?_
    obtain rfl:=os hp4
    exact me (And.intro rfl (And.intro rfl rfl)) (su2 rfl rfl)
   ·refine C9 ?_
    obtain rfl:=os hp4
    exact me (And.intro rfl (And.intro rfl rfl)) (su2 rfl rfl)
  ·rintro e s' H' ⟨rfl,rfl,rfl⟩
   refine C6<|s0<|qm rfl<|A0 (B0a rfl rfl) rfl<|es (ra3 rfl rfl rfl)<|wi h rfl (fun hc7 h=>?_) fun hc7 h=>?_
   ·refine s0<|oB h fun x8 hx8 h=>qm rfl<|A0 (C4k rfl rfl hx8) rfl<|qm rfl<|es (ra2 rfl rfl)<|r0<|qm rfl<|A0 (G6 rfl rfl) rfl<|qm rfl<|en (ra2 rfl rfl)<|s0<|oB h fun x9 hx9 h=>qm rfl<|qm rfl<|A0 (B2v rfl) rfl<|A0 (B71 rfl rfl hx9) rfl<|A0 (B2v rfl) rfl<|A0 (G6 rfl rfl) rfl<|qm rfl<|es (ra1 rfl)<|C7 ?_
    obtain rfl:=os h
    exact retq trivial (A9 rfl C0) (A5 rfl B9) (A3 A4 B1)
   ·refine C9<|s0<|oB h fun x10 hx10 h=>qm rfl<|qm rfl<|A0 (B2v rfl) rfl<|A0 (B71 rfl rfl hx10) rfl<|A0 (B2v rfl) rfl<|A0 (G6 rfl rfl) rfl<|qm rfl<|es (ra1 rfl)<|C7 ?_
    obtain rfl:=os h
    exact retq trivial (A9 rfl C0) (A5 rfl B9) (A3 A4 B1)
def A20 (a0:Int):Option Int :=
 (A1c a0).bind fun x1 =>
 some x1
theorem A9o {c:Sc} {H:A1} {a0:Int} {r:Int} (h:A20 a0 = some r) :
  F2 tab c H (.fn (.func 70) [] []) [(.lit (.int .u64 a0))] [.i r]:= by
 unfold A20 at h
 refine cE rfl rfl<|s0<|qm rfl<|es (ra1 rfl)<|C6<|N6 rfl rfl<|C9<|s0<|oB h fun x1 hx1 h=>qm rfl<|B8 (rs:=[.i x1]) rfl rfl (A2 rfl B5) ((A68 hx1).frz)<|qm rfl<|es (ra1 rfl)<|C7 ?_
 obtain rfl:=os h
 exact retq trivial (A9 rfl C0) (A5 rfl B9) (A3 A4 B1)
end Pw
end
section
set_option maxRecDepth 100000
namespace Am
open Go
theorem B44 {σ ρ:Type} {b:σ→Option (σ ⊕ ρ)} (I:σ→Prop) (J:ρ→Prop) (hs:∀x y,I x→b x = some (.inl y)→I y) (he:∀x r,I x→b x = some (.inr r)→J r) {x0:σ} {r:ρ} (h0:I x0) (h:loop b x0 = some r):J r:= by
 have key:∀n x0,I x0→B7v b n x0 = some r→J r:= by
  intro n
  induction n with
  | zero=>intro x0 _ h; cases h
  | succ n ih =>
   intro x0 hI h
   rw [B2p] at h
   split at h
   ·next x' hb=>exact ih x' (hs _ _ hI hb) h
   ·next r' hb=>simp only [Option.some.injEq] at h; subst h; exact he _ _ hI hb
   ·cases h
 exact key _ _ h0 h
end Am
namespace Pw
open Go Am Go.Proofs.Ytjpjdglddmhplaa.Cd
def B1u (a:Int) (s:Int × List Int):Option ((Int × List Int) ⊕ List Int) :=
 (if (decide (s.1 > a)) = true then (idx s.2 s.1).bind fun x=>(idx s.2 (w64 (s.1 - 1))).bind fun y=>(A3t x y).bind fun z=>some z else some false).bind fun g =>
 if g = true then
  (idx s.2 (w64 (s.1 - 1))).bind fun y=>(idx s.2 s.1).bind fun x =>
  (idx (X9 s.2 s.1 y) (w64 (s.1 - 1))).bind fun _ =>
  some (.inl (w64 (s.1 - 1),X9 (X9 s.2 s.1 y) (w64 (s.1 - 1)) x))
 else some (.inr s.2)
def B1t (a b:Int) (s:Int × List Int):Option ((Int × List Int) ⊕ List Int) :=
 if (decide (s.1 < b)) = true then
  (loop (B1u a) (s.1,s.2)).bind fun l=>some (.inl (w64 (s.1 + 1),l))
 else some (.inr s.2)
def B8s (a b:Int) (l:List Int):Option (List Int):=loop (B1t a b) (w64 (a + 1),l)
def ar1 (l:List Int):AO:=.arr 1 false (l.map cI)
theorem C49 {c:Sc} {A B:A1} {a b:Int} {l r:List Int} (h:B8s a b l = some r) :
  H6 tab c (A++(ar1 l :: B)) (.fn (.func 84) [] []) [.asl (A.length + 0) l.length,.i a,.i b] [] (A++(ar1 r :: B)):= by
 unfold B8s at h
 have htk:∀x:AO,(x :: B).take (B.length + 1) = x :: B:=fun x=>List.take_of_length_le (Nat.le_refl _)
 refine V8 (aq:=[.asl (A.length + 0) l.length,.i a,.i b]) rfl rfl rfl ?_
 refine s0<|qm rfl<|A0 (G6 rfl rfl) rfl<|qm rfl<|es (ra4 rfl rfl rfl rfl)<|C4<|wl (fun s=>[(0,.asl (A.length + 0) s.2.length),(1,.i a),(2,.i b),(6,.i s.1)]) (fun (_:Unit) s=>ar1 s.2 :: B) (B.length + 1) (fun r e s' H'=>PX 0 [] (A++(ar1 r :: B)) e s' H') () h rfl rfl (fun _ _=>rfl) (fun _=>rfl) rfl (fun s=>bdc (A2v (Nat.ble_eq_true_of_le (by omega))) (bdc A4 (bdc A4 (bdc A4 bdn)))) (fun _ s o hs=>?_) ?_
 ·unfold B1t at hs
  refine C6<|s0<|qm rfl<|qm rfl<|A0 (L5 rfl rfl) rfl<|es (ra5 rfl rfl rfl rfl rfl)<|wi hs rfl (fun hc hs=>?_) fun hc hs=>?_
  ·refine oB hs fun l1 hl1 hs=>?_
   refine C9<|C6<|C4<|s0<|qm rfl<|qm rfl<|es (ra5 rfl rfl rfl rfl rfl)<|C4<|wl (fun t=>[(0,.asl (A.length + 0) t.2.length),(1,.i a),(2,.i b),(6,.i s.1),(7,.i t.1)]) (fun (_:Unit) t=>ar1 t.2 :: B) (B.length + 1) (fun r e s' H'=>PX 2 [(0,.asl (A.length + 0) r.length),(1,.i a),(2,.i b),(6,.i s.1)] (A++(ar1 r :: B)) e s' H') () hl1 rfl rfl (fun _ _=>rfl) (fun _=>rfl) rfl (fun t=>bdc (A2v (Nat.ble_eq_true_of_le (by omega))) (bdc A4 (bdc A4 (bdc A4 (bdc A4 bdn))))) (fun _ t o' ht=>?_) ?_
   ·unfold B1u at ht
    refine oB ht fun g hg ht=>?_
    refine C6<|s0<|qm rfl<|qm rfl<|A0 (A4m rfl rfl) rfl<|qm rfl<|gp 11 30 (.b g) 19 rfl rfl (fun hb=>?_) (fun hb=>?_) ?_
    ·refine oB (bt hg hb) fun x hx hg=>oB hg fun y hy hg=>oB hg fun z hz hg=>?_
     obtain rfl:=os hg
     exact gT rfl hb<|qm rfl<|gT rfl hb<|qm rfl<|gT rfl hb<|A0 (A21 (f:=cI) rfl rfl rfl rfl hx) rfl<|gT rfl hb<|A0 (A1k (x:=.i x) rfl rfl (List.length_map _) (A2d hx) rfl) rfl<|gT rfl hb<|qm rfl<|gT rfl hb<|qm rfl<|gT rfl hb<|A0 (Z0 rfl rfl) rfl<|gT rfl hb<|A0 (A21 (f:=cI) rfl rfl rfl rfl hy) rfl<|gT rfl hb<|A0 (A1k (x:=.i y) rfl rfl (List.length_map _) (A2d hy) rfl) rfl<|gT rfl hb<|B8 (rs:=[.b z]) rfl rfl (A2 rfl (A2 rfl B5)) ((B05 hz).frz)<|A0 (D1 rfl hb rfl) rfl<|ge 11 rfl rfl rfl
    ·obtain rfl:=os (bf hg hb)
     exact nT rfl hb rfl<|nT rfl hb rfl<|nT rfl hb rfl<|nT rfl hb rfl<|nT rfl hb rfl<|nT rfl hb rfl<|nT rfl hb rfl<|nT rfl hb rfl<|nT rfl hb rfl<|K6 (F4 rfl (by rw [hb]; rfl)) rfl<|A0 (D0 rfl hb rfl) rfl<|ge 11 rfl rfl rfl
    ·refine es (ra6 rfl rfl rfl rfl rfl rfl)<|wi ht rfl (fun hc2 ht=>?_) fun hc2 ht=>?_
     ·refine oB ht fun y hy ht=>oB ht fun x hx ht=>oB ht fun w hw ht=>?_
      refine C9<|C6<|C4<|r0<|qm rfl<|qm rfl<|qm rfl<|qm rfl<|A0 (Z0 rfl rfl) rfl<|A0 (A21 (f:=cI) rfl rfl rfl rfl hy) rfl<|A0 (A1k (x:=.i y) rfl rfl (List.length_map _) (A2d hy) rfl) rfl<|qm rfl<|qm rfl<|A0 (A21 (f:=cI) rfl rfl rfl rfl hx) rfl<|A0 (A1k (x:=.i x) rfl rfl (List.length_map _) (A2d hx) rfl) rfl<|A0 (A21 (f:=cI) rfl rfl rfl rfl hx) rfl<|M4 (A8c (ds:=cI y) rfl rfl rfl rfl rfl (List.length_map _) (A2d hx) rfl rfl) rfl ?_
      rw [A8b]
      refine qm rfl<|qm rfl<|A0 (Z0 rfl rfl) rfl<|A0 (A21 (f:=cI) (e:=X9 t.2 t.1 y) rfl rfl rfl (S9 _ _ _) hw) rfl<|M4 (A8c (ds:=cI x) rfl rfl rfl rfl rfl (by rw [List.length_map,S9]) (A2d hw) rfl rfl) rfl ?_
      rw [A8b]
      refine en (ra5 rfl rfl rfl rfl rfl)<|r0<|qm rfl<|A0 (Z0 rfl rfl) rfl<|qm rfl<|en (ra5 rfl rfl rfl rfl rfl) ?_
      cases ht
      exact lnT () (htk _) (su5 (by simp only [S9]; rfl) rfl rfl rfl rfl)
     ·refine K4 ?_
      obtain rfl:=os ht
      exact lx rfl px (su4 rfl rfl rfl rfl)
   ·rintro e s' H' - ⟨rfl,rfl,rfl⟩
    refine r0<|qm rfl<|A0 (G6 rfl rfl) rfl<|qm rfl<|en (ra4 rfl rfl rfl rfl) ?_
    cases hs
    exact lnT () (htk _) (su4 rfl rfl rfl rfl)
  ·refine K4 ?_
   obtain rfl:=os hs
   exact lx rfl px (Sub.nil _)
 ·rintro e s' H' - ⟨rfl,rfl,rfl⟩
  show A4r _ _ _ _ .normal _ _
  exact B3i trivial C0 B9 B1 (List.take_of_length_le (by simp))
def C6u (a b:Int) (l:List Int):Option (List Int):=if (decide (w64 (b - a)≤12)) = true then B8s a b l else none
theorem C6v {c:Sc} {A B:A1} {a b k:Int} {l r:List Int} (h:C6u a b l = some r) :
  H6 tab c (A++(ar1 l :: B)) (.fn (.func 69) [] []) [.asl (A.length + 0) l.length,.i a,.i b,.i k] [] (A++(ar1 r :: B)):= by
 unfold C6u at h
 split at h
 ·next hc =>
  refine V8 (aq:=[.asl (A.length + 0) l.length,.i a,.i b,.i k]) rfl rfl rfl ?_
  refine s0<|qm rfl<|es (ra5 rfl rfl rfl rfl rfl)<|s0<|qm rfl<|es (ra6 rfl rfl rfl rfl rfl rfl)<|C4<|C5c (B.length + 1) rfl _ (fun S hS=>L7 (live:=[0,1,2,3,8,9]) rfl (by decide) (Sub.trans (su6 rfl rfl rfl rfl rfl rfl) hS))<|C4<|s0<|qm rfl<|qm rfl<|A0 (Z0 rfl rfl) rfl<|qm rfl<|es (ra7 rfl rfl rfl rfl rfl rfl rfl)<|C6<|s0<|qm rfl<|A0 (A59 rfl rfl) rfl<|es (ra8 rfl rfl rfl rfl rfl rfl rfl rfl)<|M3 rfl hc<|s0<|qm rfl<|qm rfl<|qm rfl<|N2 (Z5 rfl rfl (C49 h) rfl) rfl<|es .n<|C7 ?_
  refine .out rfl ?_
  show A4r _ _ _ _ .ret _ _
  exact B3i trivial C0 B9 B1 (List.take_of_length_le (by simp))
 ·cases h
def B5n (l:List Int):Option (List Int) :=
 (A20 (IntKind.u64.wrap (List.length l:Int))).bind fun _=>C6u 0 (List.length l:Int) l
theorem C61 {c:Sc} {A B:A1} {l r:List Int} (h:B5n l = some r) :
  H6 tab c (A++(ar1 l :: B)) (.fn (.func 48) [] []) [.asl (A.length + 0) l.length] [] (A++(ar1 r :: B)):= by
 unfold B5n at h
 refine oB h fun k hk h=>?_
 refine V8 (aq:=[.asl (A.length + 0) l.length]) rfl rfl rfl ?_
 refine s0<|qm rfl<|A0 (B6e (f:=cI) rfl rfl rfl) rfl<|qm rfl<|es (ra2 rfl rfl)<|r0<|qm rfl<|qm rfl<|qm rfl<|A0 (B2v rfl) rfl<|B8 (rs:=[.i k]) rfl rfl (A2 rfl B5) ((A9o hk).frz)<|N2 (Z5 rfl rfl (C6v h) rfl) rfl<|en .n ?_
 show A4r _ _ _ _ .normal _ _
 exact B3i trivial C0 B9 B1 (List.take_of_length_le (by simp))
theorem C2q {a b:Int} {l r:List Int} (h:B8s a b l = some r):r.length = l.length:= by
 unfold B8s at h
 refine B44 (fun s=>s.2.length = l.length) (fun r=>r.length = l.length) (fun x y hx hy=>?_) (fun x r hx hr=>?_) rfl h
 ·unfold B1t at hy
  split at hy
  ·refine oB hy fun l1 hl1 hy=>?_
   cases hy
   refine B44 (fun s=>s.2.length = l.length) (fun r=>r.length = l.length) (fun x y hx hy=>?_) (fun x r hx hr=>?_) hx hl1
   ·unfold B1u at hy
    refine oB hy fun g _ hy=>?_
    split at hy
    ·refine oB hy fun _ _ hy=>oB hy fun _ _ hy=>oB hy fun _ _ hy=>?_
     cases hy
     simpa only [S9] using hx
    ·cases hy
   ·unfold B1u at hr
    refine oB hr fun g _ hr=>?_
    split at hr
    ·refine oB hr fun _ _ hr=>oB hr fun _ _ hr=>oB hr fun _ _ hr=>?_
     cases hr
    ·cases hr; exact hx
  ·cases hy
 ·unfold B1t at hr
  split at hr
  ·refine oB hr fun _ _ hr=>?_
   cases hr
  ·cases hr; exact hx
theorem C2r {l r:List Int} (h:B5n l = some r):r.length = l.length:= by
 unfold B5n C6u at h
 refine oB h fun _ _ h=>?_
 split at h
 ·exact C2q h
 ·cases h
end Pw
end
section
set_option maxRecDepth 100000
namespace Pw
open Go Am Go.Proofs.Ytjpjdglddmhplaa.Cd
def C5w (l:List Int) (k0:Int) (i:Int):Option Int:=if 0≤i∧i < ((l.length - k0.toNat:Nat):Int) then idx l (k0 + i) else none
theorem B7p {l:List Int} {k0 i a:Int} (h0:0≤k0) (h:C5w l k0 i = some a):0≤i∧i < ((l.length - k0.toNat:Nat):Int)∧(l.map cI)[k0.toNat + i.toNat]? = some (cI a):= by
 unfold C5w at h
 split at h
 ·next h1 =>
  obtain ⟨h2,h3⟩:=A2q h
  refine ⟨h1.1,h1.2,?_⟩
  rw [show k0.toNat + i.toNat = (k0 + i).toNat by omega,List.getElem?_map,h3]; rfl
 ·cases h
section
variable {T:Tab} {s:A6} {H0:A1} {l:List AO} {c:Sc} {n0:Nat}
theorem C4m {α:Type} {f:α→List AV} {k j m q:Nat} {p:Bool} {x:Opd} {lo hi:Option Opd} {e:List α} {a b:Int} (h:ev s x = some (.asl (H0.length + j) m)) (hl:l[j]? = some (.arr k p (e.map f))) (hm:e.length = m) (h1:bnd s 0 lo = some a) (h2:bnd s m hi = some b) (h3:0≤a∧a < b∧b≤m) (hq:b.toNat - a.toNat = q) :
  One T c n0 s (H0++l) (.sub k x lo hi) (.csl (H0.length + j) a.toNat m q) (H0++l):= by
 have:=C8f (T:=T) (c:=c) (n0:=n0) h hl hm h1 h2 ⟨h3.1,by omega,h3.2.2⟩
 rwa [if_neg (by omega),hq] at this
theorem C7o {N j k o m q:Nat} (h:Nat.ble (j + 1) k = true):(AV.csl (N + j) o m q).bd (N + k) = true:= by simp only [AV.bd]; exact Nat.ble_eq_true_of_le (by have:=Nat.le_of_ble_eq_true h; omega)
end
def B13 (k0:Int) (s:Int × Int × List Int):Option ((Int × Int × List Int) ⊕ (Int × List Int)) :=
 if (decide (s.1 < ((s.2.2.length - k0.toNat:Nat):Int))) = true then
  (C5w s.2.2 k0 s.1).bind fun a=>(C5w s.2.2 k0 (w64 (s.1 - 1))).bind fun b =>
  if (a != b) = true then
   (idx s.2.2 s.2.1).bind fun _=>some (.inl (w64 (s.1 + 1),w64 (s.2.1 + 1),X9 s.2.2 s.2.1 a))
  else some (.inl (w64 (s.1 + 1),s.2.1,s.2.2))
 else some (.inr (s.2.1,s.2.2))
def clr (l:List Int) (k:Int):List Int:=l.take k.toNat++(List.replicate (l.length - k.toNat) 0++l.drop (k.toNat + (l.length - k.toNat)))
def B12 (l:List Int) (k:Int):Option (Int ⊕ (Bool × List Int)) :=
 if (decide (k < (l.length:Int))) = true then
  (idx l k).bind fun a=>(idx l (w64 (k - 1))).bind fun b =>
  if (a == b) = true then
   (loop (B13 k) (1,k,l)).bind fun x =>
   if 0≤x.1∧x.1 < (x.2.length:Int) then (slc (clr x.2 x.1) 0 x.1).bind fun r=>some (.inr (true,r)) else none
  else some (.inl (w64 (k + 1)))
 else some (.inr (false,l))
def A7r (l:List Int):Option (Bool × List Int):=if (decide ((l.length:Int) < 2)) = true then some (false,l) else loop (B12 l) 1
theorem C5i {l:List Int} {k:Int} (h:0≤k∧k < (l.length:Int)):(clr l k).length = l.length:= by
 unfold clr; simp; omega
def CpP (A:A1) (X:AO) (l:List Int) (x:Bool × List Int) (e:Ex) (s:A6) (H:A1):Prop :=
 (x = (false,l)∧e = .exit 0∧s = [(0,.asl (A.length + 0) l.length)]∧H = A++[ar1 l,X,.arr 1 false []]) ∨
 (x.1 = true∧e = .ret∧s = [(2,.asl (A.length + 3) x.2.length)]∧H = A++[.dead,X,.arr 1 false [],.arr 1 false (x.2.map cI)])
theorem B86 {c:Sc} {A:A1} {X:AO} {l:List Int} {x:Bool × List Int} (h:A7r l = some x) :
  H6 tab c (A++[ar1 l,X]) (.fn (.func 49) [] []) [.asl (A.length + 0) l.length] (bif x.1 then [.fresh 1 (x.2.map cI)] else [.seq 1 (x.2.map cI)]) (A++[bif x.1 then .dead else .arr 1 true (l.map cI),X]):= by
 unfold A7r at h
 have hlen:(A++[ar1 l,X]).length = A.length + 2:= by simp
 have fin0:∀s:A6,sget s 2 = some (.asl (A.length + 0) l.length)→A4r (A++[ar1 l,X]) (A++[.arr 1 true (l.map cI),X]) [.tmp 2] [.seq 1 (l.map cI)] .ret s (A++[ar1 l,X,.arr 1 false []]):=fun s hs=>by
  refine ⟨trivial,_,_,A9 hs C0,by rw [hlen]; exact A5 (C5x rfl (List.length_map _) rfl) B9,A3 M0 B1,?_⟩
  rw [hlen,A3n]; rfl
 refine V8 (aq:=[.asl (A.length + 0) l.length]) rfl rfl rfl ?_
 refine sg (H0:=A) 2 rfl<|A0 A6f rfl<|es (ra1 rfl)<|C6<|s0<|qm rfl<|A0 (B6e (f:=cI) rfl rfl rfl) rfl<|A0 (L5 rfl rfl) rfl<|es (ra2 rfl rfl)<|wi h rfl (fun hc h=>?_) fun hc h=>?_
 ·refine s0<|qm rfl<|qm rfl<|es (ra1 rfl)<|C7 ?_
  obtain rfl:=os h
  exact fin0 _ rfl
 ·refine C9<|C6<|s0<|qm rfl<|es (ra2 rfl rfl)<|C4<|wl (fun k=>[(0,.asl (A.length + 0) l.length),(3,.i k)]) (fun (_:Unit) _=>[ar1 l,X,.arr 1 false []]) 3 (CpP A X l) () h rfl rfl (fun _ _=>rfl) (fun _=>rfl) rfl (fun _=>bdc (A2v rfl) (bdc A4 bdn)) (fun _ k o hs=>?_) ?_
  ·unfold B12 at hs
   refine C6<|s0<|qm rfl<|qm rfl<|A0 (B6e (f:=cI) rfl rfl rfl) rfl<|A0 (L5 rfl rfl) rfl<|es (ra3 rfl rfl rfl)<|wi hs rfl (fun hc hs=>?_) fun hc hs=>?_
   ·refine oB hs fun a ha hs=>oB hs fun b hb hs=>?_
    have hk0:0≤k:=(A2q ha).1
    refine C9<|C6<|C4<|s0<|qm rfl<|qm rfl<|A0 (A21 (f:=cI) rfl rfl rfl rfl ha) rfl<|A0 (A1k (x:=.i a) rfl rfl (List.length_map _) (A2d ha) rfl) rfl<|qm rfl<|qm rfl<|A0 (Z0 rfl rfl) rfl<|A0 (A21 (f:=cI) rfl rfl rfl rfl hb) rfl<|A0 (A1k (x:=.i b) rfl rfl (List.length_map _) (A2d hb) rfl) rfl<|A0 (I3 rfl rfl) rfl<|es (ra3 rfl rfl rfl)<|wi hs rfl (fun hc2 hs=>?_) fun hc2 hs=>?_
    ·refine oB hs fun y hy hs=>?_
     have hkl:k < (l.length:Int):= by have:=(List.getElem?_eq_some_iff.1 (A2q ha).2).1; omega
     refine s0<|qm rfl<|qm rfl<|A0 (C4m (f:=cI) (e:=l) (q:=l.length - k.toNat) rfl rfl rfl rfl rfl ⟨hk0,hkl,Int.le_refl _⟩ rfl) rfl<|qm rfl<|es (ra3 rfl rfl rfl)<|C6<|s0<|qm rfl<|es (ra4 rfl rfl rfl rfl)<|C4<|wl (fun t=>[(0,.asl (A.length + 0) t.2.2.length),(3,.i t.2.1),(4,.csl (A.length + 0) k.toNat t.2.2.length (t.2.2.length - k.toNat)),(5,.i t.1)]) (fun (_:Unit) t=>[ar1 t.2.2,X,.arr 1 false []]) 3 (fun r e s' H'=>PX 2 [(0,.asl (A.length + 0) r.2.length),(3,.i r.1)] (A++[ar1 r.2,X,.arr 1 false []]) e s' H') () hy rfl rfl (fun _ _=>rfl) (fun _=>rfl) rfl (fun _=>bdc (A2v rfl) (bdc A4 (bdc (C7o rfl) (bdc A4 bdn)))) (fun _ t o ht=>?_) ?_
     ·unfold B13 at ht
      refine C6<|s0<|qm rfl<|qm rfl<|A0 (C6g rfl) rfl<|A0 (L5 rfl rfl) rfl<|es (ra5 rfl rfl rfl rfl rfl)<|wi ht rfl (fun hc3 ht=>?_) fun hc3 ht=>?_
      ·refine oB ht fun u hu ht=>oB ht fun v hv ht=>?_
       obtain ⟨u1,u2,u3⟩:=B7p hk0 hu
       obtain ⟨v1,v2,v3⟩:=B7p hk0 hv
       refine C9<|C6<|C4<|s0<|qm rfl<|qm rfl<|A0 (B9s (f:=cI) rfl rfl rfl rfl u1 u2) rfl<|A0 (A1k (x:=.i u) rfl rfl (List.length_map _) u3 rfl) rfl<|qm rfl<|qm rfl<|A0 (Z0 rfl rfl) rfl<|A0 (B9s (f:=cI) rfl rfl rfl rfl v1 v2) rfl<|A0 (A1k (x:=.i v) rfl rfl (List.length_map _) v3 rfl) rfl<|A0 (P6 rfl rfl) rfl<|es (ra5 rfl rfl rfl rfl rfl)<|wi ht rfl (fun hc4 ht=>?_) fun hc4 ht=>?_
       ·refine oB ht fun w hw ht=>?_
        refine s0<|qm rfl<|qm rfl<|qm rfl<|qm rfl<|A0 (B9s (f:=cI) rfl rfl rfl rfl u1 u2) rfl<|A0 (A1k (x:=.i u) rfl rfl (List.length_map _) u3 rfl) rfl<|A0 (A21 (f:=cI) rfl rfl rfl rfl hw) rfl<|M4 (A8c (ds:=cI u) rfl rfl rfl rfl rfl (List.length_map _) (A2d hw) rfl rfl) rfl ?_
        rw [A8b]
        refine es (ra4 rfl rfl rfl rfl)<|r0<|qm rfl<|A0 (G6 rfl rfl) rfl<|qm rfl<|en (ra4 rfl rfl rfl rfl)<|r0<|qm rfl<|A0 (G6 rfl rfl) rfl<|qm rfl<|en (ra4 rfl rfl rfl rfl) ?_
        cases ht
        exact lnT () rfl (su4 (by simp only [S9]; rfl) rfl (by simp only [S9]; rfl) rfl)
       ·refine C9<|r0<|qm rfl<|A0 (G6 rfl rfl) rfl<|qm rfl<|en (ra4 rfl rfl rfl rfl) ?_
        cases ht
        exact lnT () rfl (su4 rfl rfl rfl rfl)
      ·refine K4 ?_
       obtain rfl:=os ht
       exact lx rfl px (su2 rfl rfl)
     ·rintro e s' H' - ⟨rfl,rfl,rfl⟩
      obtain ⟨k1,l1⟩:=y
      split at hs
      ·next hk1 =>
       refine oB hs fun r hr hs=>?_
       replace hk1:0≤k1∧k1 < (l1.length:Int):=hk1
       replace hr:slc (clr l1 k1) 0 k1 = some r:=hr
       have hcl:=C5i hk1
       refine s0<|qm rfl<|qm rfl<|A0 (C4m (f:=cI) (e:=l1) (q:=l1.length - k1.toNat) rfl rfl rfl rfl rfl ⟨hk1.1,hk1.2,Int.le_refl _⟩ rfl) rfl<|M4 (C6b (f:=cI) (e:=l1) (a:=0) rfl rfl rfl rfl (show k1.toNat + (l1.length - k1.toNat)≤l1.length by omega) (show 0 < l1.length - k1.toNat by omega)) rfl<|es (ra2 rfl rfl)<|sg (H0:=A) 3 rfl<|qm rfl<|qm rfl<|N2 (C95 (f:=cI) (e:=clr l1 k1) rfl rfl hcl rfl hr) rfl<|qm rfl<|es (ra1 rfl)<|C7 ?_
       cases hs
       exact lx rfl (.inr ⟨rfl,rfl,rfl,rfl⟩) (su1 rfl)
      ·cases hs
    ·refine C9<|r0<|qm rfl<|A0 (G6 rfl rfl) rfl<|qm rfl<|en (ra2 rfl rfl) ?_
     cases hs
     exact lnT () rfl (su2 rfl rfl)
   ·refine K4 ?_
    obtain rfl:=os hs
    exact lx rfl (.inl ⟨rfl,rfl,rfl,rfl⟩) (su1 rfl)
  ·rintro e s' H' - (⟨rfl,rfl,rfl,rfl⟩ | ⟨hx,rfl,rfl,rfl⟩)
   ·refine s0<|qm rfl<|qm rfl<|es (ra1 rfl)<|C7 ?_
    exact fin0 _ rfl
   ·obtain ⟨d,r⟩:=x
    obtain rfl:d = true:=hx
    show A4r _ _ _ _ .ret _ _
    refine ⟨trivial,_,_,A9 rfl C0,by rw [hlen]; exact A5 (C70 rfl (List.length_map _) rfl) B9,A3 X4 B1,?_⟩
    rw [hlen,A3n]; rfl
end Pw
end
section
set_option maxRecDepth 100000
set_option maxHeartbeats 0
namespace Pw
open Go Am Go.Proofs.Ytjpjdglddmhplaa.Cd
def A1p (a0:PaGown):Option ByteArray :=
 some a0.Name
theorem B06 {c:Sc} {H:A1} {a0:PaGown} {r:ByteArray} (h:A1p a0 = some r) :
  F2 tab c H (.fn (.func 65) [] []) [(.agg (C1 a0))] [.s r]:= by
 unfold A1p at h
 refine cE rfl rfl<|sg 0 rfl<|A0 (F9 (cs:=C1 a0) rfl rfl rfl) rfl<|qm rfl<|es (ra1 rfl)<|s0<|A0 (C3 rfl) rfl<|A0 (B7 rfl rfl rfl) rfl<|qm rfl<|es (ra1 rfl)<|C7 ?_
 obtain rfl:=os h
 exact retq trivial (A9 rfl C0) (A5 rfl B9) (A3 A4 B1)
def A1q (a0:PaFigure):Option ByteArray :=
 some a0.Name
theorem B07 {c:Sc} {H:A1} {a0:PaFigure} {r:ByteArray} (h:A1q a0 = some r) :
  F2 tab c H (.fn (.func 68) [] []) [(.agg (B3 a0))] [.s r]:= by
 unfold A1q at h
 refine cE rfl rfl<|sg 0 rfl<|A0 (F9 (cs:=B3 a0) rfl rfl rfl) rfl<|qm rfl<|es (ra1 rfl)<|s0<|A0 (C3 rfl) rfl<|A0 (B7 rfl rfl rfl) rfl<|qm rfl<|es (ra1 rfl)<|C7 ?_
 obtain rfl:=os h
 exact retq trivial (A9 rfl C0) (A5 rfl B9) (A3 A4 B1)
def A6e (a0:ByteArray) (s1:Nat):Option (Nat ⊕ (Bool ⊕ Nat)) :=
 if (decide (s1 < ByteArray.size a0)) = true then
  if ((!((decide (97≤((Utf8.decode a0 s1).1:Int))) && (decide (((Utf8.decode a0 s1).1:Int)≤122)))) && (((s1:Int) == 0) || ((((Utf8.decode a0 s1).1:Int) != 46) && ((decide (((Utf8.decode a0 s1).1:Int) < 48)) || (decide (((Utf8.decode a0 s1).1:Int) > 57)))))) = true then
  some (.inr (.inl false))
  else
  some (.inl (s1 + (Utf8.decode a0 s1).2))
 else
  some (.inr (.inr s1))
def A34 (a0:ByteArray):Option Bool :=
 (loop (A6e a0) (0:Nat)).bind fun (o10:(Bool ⊕ Nat)) =>
 match o10 with
 | (.inl vo10_0) =>
  some vo10_0
 | (.inr vo10_1) =>
  some ((!eqS a0 (ByteArray.mk #[])) && (decide ((ByteArray.size a0:Int)≤16)))
theorem A6h {c:Sc} {H:A1} {a0:ByteArray} {r:Bool} (h:A34 a0 = some r) :
  F2 tab c H (.fn (.func 79) [] []) [.s a0] [.b r]:= by
 unfold A34 at h
 refine cE rfl rfl<|s0<|qm rfl<|es (ra1 rfl)<|C6<|sg 0 rfl<|qm rfl<|A0 (C6m rfl) rfl<|es (ra2 rfl rfl)<|C4<|oB h fun o10 ho10 h=>wl (fun s1=>[(0,.s a0),(7,(.itr (H.length + 0)))]) (fun (q2:Unit) s1=>[.iter a0 s1]) 1 (fun r e s' H'=>(match r with | (.inl v)=>e = .ret∧RetQ H [.tmp 2] [.b v] e s' H' | (.inr v)=>PX 0 [(0,.s a0)] (H++[.iter a0 v]) e s' H':Prop)) () ho10 rfl rfl (fun _ _=>rfl) (fun _=>rfl) rfl (fun s1=>(bdc A4 (bdc (C7q rfl) bdn))) (fun q2 s1 ys1 hs1=>?_) ?_
 ·unfold A6e at hs1
  by_cases hc3:(decide (s1 < ByteArray.size a0)) = true
  ·rw [if_pos hc3] at hs1
   refine s0<|N2 (C6l rfl rfl (of_decide_eq_true hc3)) rfl<|A0 (A7 rfl rfl) rfl<|es (ra4 rfl rfl rfl rfl)<|C6<|M3 rfl rfl<|C9<|C4<|s0<|A0 (A7 rfl rfl) rfl<|A0 (A7 rfl rfl) rfl<|qm rfl<|qm rfl<|es (ra4 rfl rfl rfl rfl)<|s0<|qm rfl<|A0 (A59 rfl rfl) rfl<|qm rfl<|gp 3 17 (.b ((decide (97≤((Utf8.decode a0 s1).1:Int))) && (decide (((Utf8.decode a0 s1).1:Int)≤122)))) 14 rfl rfl (fun hg4=>?_) (fun hg4=>?_) ?_
   ·exact gT rfl hg4<|qm rfl<|gT rfl hg4<|A0 (A59 rfl rfl) rfl<|A0 (D1 rfl hg4 rfl) rfl<|ge 3 (by rw [hg4]; rfl) rfl rfl
   ·exact nT rfl hg4 rfl<|nT rfl hg4 rfl<|A0 (D0 rfl hg4 rfl) rfl<|ge 3 (by rw [hg4]; rfl) rfl rfl
   refine qm rfl<|es (ra5 rfl rfl rfl rfl rfl)<|s0<|qm rfl<|A0 (A5m rfl) rfl<|qm rfl<|gp 15 35 (.b ((!((decide (97≤((Utf8.decode a0 s1).1:Int))) && (decide (((Utf8.decode a0 s1).1:Int)≤122)))) && (((s1:Int) == 0) || ((((Utf8.decode a0 s1).1:Int) != 46) && ((decide (((Utf8.decode a0 s1).1:Int) < 48)) || (decide (((Utf8.decode a0 s1).1:Int) > 57))))))) 20 rfl rfl (fun hg5=>?_) (fun hg5=>?_) ?_
   ·refine gT rfl hg5<|qm rfl<|gT rfl hg5<|A0 (I3 rfl rfl) rfl<|gT rfl hg5<|qm rfl<|gq 11 34 (.b (((s1:Int) == 0) || ((((Utf8.decode a0 s1).1:Int) != 46) && ((decide (((Utf8.decode a0 s1).1:Int) < 48)) || (decide (((Utf8.decode a0 s1).1:Int) > 57)))))) 23 rfl rfl (fun hg6=>?_) (fun hg6=>?_) ?_
    ·exact nF rfl hg6 rfl<|nF rfl hg6 rfl<|nF rfl hg6 rfl<|nX rfl rfl<|nX rfl rfl<|nX rfl rfl<|nX rfl rfl<|nX rfl rfl<|nX rfl rfl<|nF rfl hg6 rfl<|gT rfl hg5<|A0 (D1 rfl hg6 rfl) rfl<|ge 11 (by rw [hg6]; rfl) rfl rfl
    ·refine gF rfl hg6<|qm rfl<|gF rfl hg6<|A0 (P6 rfl rfl) rfl<|gF rfl hg6<|qm rfl<|gq 7 33 (.b ((((Utf8.decode a0 s1).1:Int) != 46) && ((decide (((Utf8.decode a0 s1).1:Int) < 48)) || (decide (((Utf8.decode a0 s1).1:Int) > 57))))) 26 rfl rfl (fun hg7=>?_) (fun hg7=>?_) ?_
     ·refine gT rfl hg7<|qm rfl<|gT rfl hg7<|A0 (L5 rfl rfl) rfl<|gT rfl hg7<|qm rfl<|gq 3 32 (.b ((decide (((Utf8.decode a0 s1).1:Int) < 48)) || (decide (((Utf8.decode a0 s1).1:Int) > 57)))) 29 rfl rfl (fun hg8=>?_) (fun hg8=>?_) ?_
      ·exact nF rfl hg8 rfl<|nF rfl hg8 rfl<|gT rfl hg7<|A0 (D1 rfl hg8 rfl) rfl<|ge 3 (by rw [hg8]; rfl) rfl rfl
      ·exact gF rfl hg8<|qm rfl<|gF rfl hg8<|A0 (A4m rfl rfl) rfl<|gT rfl hg7<|A0 (D0 rfl hg8 rfl) rfl<|ge 3 (by rw [hg8]; rfl) rfl rfl
      exact gF rfl hg6<|A0 (D1 rfl hg7 rfl) rfl<|ge 5 (by rw [hg7]; rfl) rfl rfl
     ·exact nT rfl hg7 rfl<|nT rfl hg7 rfl<|nT rfl hg7 rfl<|nX rfl rfl<|nX rfl rfl<|nT rfl hg7 rfl<|gF rfl hg6<|A0 (D0 rfl hg7 rfl) rfl<|ge 7 (by rw [hg7]; rfl) rfl rfl
     exact gT rfl hg5<|A0 (D0 rfl hg6 rfl) rfl<|ge 5 (by rw [hg6]; rfl) rfl rfl
    exact A0 (D1 rfl hg5 rfl) rfl<|ge 5 (by rw [hg5]; rfl) rfl rfl
   ·exact nT rfl hg5 rfl<|nT rfl hg5 rfl<|nT rfl hg5 rfl<|nX rfl rfl<|nX rfl rfl<|nX rfl rfl<|nX rfl rfl<|nX rfl rfl<|nX rfl rfl<|nX rfl rfl<|nX rfl rfl<|nX rfl rfl<|nX rfl rfl<|nT rfl hg5 rfl<|A0 (D0 rfl hg5 rfl) rfl<|ge 15 (by rw [hg5]; rfl) rfl rfl
   refine es (ra3 rfl rfl rfl)<|wi hs1 rfl (fun hc9 hs1=>?_) fun hc9 hs1=>?_
   ·refine s0<|qm rfl<|es (ra1 rfl)<|C7 ?_
    obtain rfl:=os hs1
    exact lx rfl (And.intro rfl (retq trivial (A9 rfl C0) (A5 rfl B9) (A3 A4 B1))) (Sub.refl _)
   ·refine C9 ?_
    cases hs1
    exact lnT () rfl (su2 rfl rfl)
  ·rw [if_neg hc3] at hs1
   refine s0<|N2 (C6k rfl rfl (fun hn=>hc3 (decide_eq_true hn))) rfl<|A0 (A7 rfl rfl) rfl<|es (ra4 rfl rfl rfl rfl)<|C6<|N6 rfl rfl<|K4 ?_
   obtain rfl:=os hs1
   exact lx rfl px (su1 rfl)
 ·rcases o10 with vo10_0 | vo10_1
  ·rintro e s' H' - ⟨rfl,hret⟩
   cases h
   exact hret
  ·rintro e s' H' - ⟨rfl,rfl,rfl⟩
   refine s0<|qm rfl<|A0 (C9j rfl rfl) rfl<|qm rfl<|gp 4 42 (.b ((!eqS a0 (ByteArray.mk #[])) && (decide ((ByteArray.size a0:Int)≤16)))) 38 rfl rfl (fun hg11=>?_) (fun hg11=>?_) ?_
   ·exact gT rfl hg11<|qm rfl<|gT rfl hg11<|A0 (C8e rfl) rfl<|gT rfl hg11<|A0 (A59 rfl rfl) rfl<|A0 (D1 rfl hg11 rfl) rfl<|ge 4 (by rw [hg11]; rfl) rfl rfl
   ·exact nT rfl hg11 rfl<|nT rfl hg11 rfl<|nT rfl hg11 rfl<|A0 (D0 rfl hg11 rfl) rfl<|ge 4 (by rw [hg11]; rfl) rfl rfl
   refine qm rfl<|es (ra1 rfl)<|C7 ?_
   obtain rfl:=os h
   exact retq trivial (A9 rfl C0) (A5 rfl B9) (A3 A4 B1)
def M1 (a0:PaFigure) (g1:(PaFigure→Option ByteArray)) (a2:(List PaFigure)) (a3:Int):Option Bool :=
 (g1 a0).bind fun x1 =>
 (idx a2 a3).bind fun x2 =>
 (g1 x2).bind fun x3 =>
 some (eqS x1 x3)
theorem A1e {c:Sc} {H:A1} {a0:PaFigure} {g1:PaFigure→Option ByteArray} {g1_i:Nat} {g1_f g1_c:List AV} (g1_h:Impl tab H g1_i g1_f g1_c g1 (fun y=>[(.agg (B3 y))]) (fun y=>[.s y])) {b1:Nat} (hb1:hcells H b1 = some [.fn (.func g1_i) g1_f g1_c]) {a2:(List PaFigure)} {b2:Nat} (hb2:hcells H b2 = some ((cL 4 B3) a2)) {a3:Int} {b3:Nat} (hb3:hcells H b3 = some (cI a3)) {r:Bool} (h:M1 a0 g1 a2 a3 = some r) :
  F2 tab c H (.fn (.func 83) [] []) [(.agg (B3 a0)),.ptr b1 0,.ptr b2 0,.ptr b3 0] [.b r]:= by
 unfold M1 at h
 refine cE rfl rfl<|sg 0 rfl<|A0 (F9 (cs:=B3 a0) rfl rfl rfl) rfl<|qm rfl<|es (ra4 rfl rfl rfl rfl)<|s0<|oB h fun x1 hx1 h=>oB h fun x2 hx2 h=>oB h fun x3 hx3 h=>A0 (E9 (x:=(.fn (.func g1_i) g1_f g1_c)) rfl hb1 rfl) rfl<|A0 (E5 rfl rfl rfl) rfl<|S3 (rs:=[.s x1]) rfl rfl (A8f rfl A0t) (A2 (D8 rfl) B5) (Impl.callP g1_h hx1 _)<|A0 (E9 (x:=(.fn (.func g1_i) g1_f g1_c)) rfl hb1 rfl) rfl<|A0 (E9 rfl hb2 rfl) rfl<|A0 (E9 rfl hb3 rfl) rfl<|A0 (J0 (f:=B3) rfl rfl hx2) rfl<|A0 (H8 rfl rfl) rfl<|B8 (rs:=[.s x3]) rfl rfl (A2 (D8 rfl) B5) (Impl.call g1_h hx3 _)<|A0 (C69 rfl rfl) rfl<|qm rfl<|es (ra1 rfl)<|C7 ?_
 obtain rfl:=os h
 exact retq trivial (A9 rfl C0) (A5 rfl B9) (A3 A4 B1)
def K9 (a0:(List PaFigure)) (g1:(PaFigure→Option Bool)) (s1:Int):Option (Int ⊕ (Int ⊕ Unit)) :=
 if (decide (s1 < (List.length a0:Int))) = true then
  (idx a0 s1).bind fun x4 =>
  (g1 x4).bind fun x5 =>
  if x5 = true then
  some (.inr (.inl s1))
  else
  some (.inl (w64 (s1 + 1)))
 else
  some (.inr (.inr ()))
def I8 (a0:(List PaFigure)) (g1:(PaFigure→Option Bool)):Option Int :=
 (loop (K9 a0 g1) 0).bind fun (o7:(Int ⊕ Unit)) =>
 match o7 with
 | (.inl vo7_0) =>
  some vo7_0
 | (.inr vo7_1) =>
  some (-1)
theorem R7 {c:Sc} {H:A1} {a0:(List PaFigure)} {g1:PaFigure→Option Bool} {g1_i:Nat} {g1_f g1_c:List AV} (g1_h:Impl tab H g1_i g1_f g1_c g1 (fun y=>[(.agg (B3 y))]) (fun y=>[.b y])) {r:Int} (h:I8 a0 g1 = some r) :
  F2 tab c H (.fn (.func 98) [] []) [(.seq 4 (List.map B3 a0)),.fn (.func g1_i) g1_f g1_c] [.i r]:= by
 unfold I8 at h
 refine cE rfl rfl<|s0<|qm rfl<|es (ra2 rfl rfl)<|C6<|s0<|qm rfl<|A0 (I6 (f:=B3) rfl) rfl<|qm rfl<|es (ra4 rfl rfl rfl rfl)<|C4<|oB h fun o7 ho7 h=>wl (fun s1=>[(0,(.seq 4 (List.map B3 a0))),(1,(.fn (.func g1_i) g1_f g1_c)),(7,(.i (List.length a0:Int))),(8,.i s1)]) (fun (q2:Unit) s1=>[]) 0 (fun r e s' H'=>(match r with | (.inl v)=>e = .ret∧RetQ H [.tmp 4] [.i v] e s' H' | (.inr v)=>PX 0 [] (H++[]) e s' H':Prop)) () ho7 rfl rfl (fun _ _=>rfl) (fun _=>rfl) rfl (fun s1=>(bdc M0 (bdc (B64 g1_h.1) (bdc A4 (bdc A4 bdn))))) (fun q2 s1 ys1 hs1=>?_) ?_
 ·unfold K9 at hs1
  refine s0<|A0 (L5 rfl rfl) rfl<|es (ra5 rfl rfl rfl rfl rfl)<|C6<|wi hs1 rfl (fun hc3 hs1=>?_) fun hc3 hs1=>?_
  ·refine C9<|C6<|C4<|s0<|qm rfl<|qm rfl<|es (ra5 rfl rfl rfl rfl rfl)<|s0<|oB hs1 fun x4 hx4 hs1=>oB hs1 fun x5 hx5 hs1=>qm rfl<|qm rfl<|qm rfl<|A0 (J0 (f:=B3) rfl rfl hx4) rfl<|A0 (H8 rfl rfl) rfl<|B8 (rs:=[.b x5]) rfl rfl (A2 (D8 rfl) B5) (Impl.call g1_h hx5 _)<|es (ra6 rfl rfl rfl rfl rfl rfl)<|wi hs1 rfl (fun hc6 hs1=>?_) fun hc6 hs1=>?_
   ·refine s0<|qm rfl<|qm rfl<|es (ra1 rfl)<|C7 ?_
    obtain rfl:=os hs1
    exact lx rfl (And.intro rfl (retq trivial (A9 rfl C0) (A5 rfl B9) (A3 A4 B1))) (Sub.refl _)
   ·refine C9<|r0<|A0 (G6 rfl rfl) rfl<|qm rfl<|en (ra4 rfl rfl rfl rfl) ?_
    cases hs1
    exact lnT () rfl (su4 rfl rfl rfl rfl)
  ·refine K4 ?_
   obtain rfl:=os hs1
   exact lx rfl px (.nil _)
 ·rcases o7 with vo7_0 | vo7_1
  ·rintro e s' H' - ⟨rfl,hret⟩
   cases h
   exact hret
  ·rintro e s' H' - ⟨rfl,rfl,rfl⟩
   refine s0<|qm rfl<|es (ra1 rfl)<|C7 ?_
   obtain rfl:=os h
   exact retq trivial (A9 rfl C0) (A5 rfl B9) (A3 A4 B1)
def H9 (a0:(List PaFigure)) (g1:(PaFigure→Option Bool)):Option Bool :=
 (I8 a0 g1).bind fun x1 =>
 some (decide (x1 ≥ 0))
theorem P8 {c:Sc} {H:A1} {a0:(List PaFigure)} {g1:PaFigure→Option Bool} {g1_i:Nat} {g1_f g1_c:List AV} (g1_h:Impl tab H g1_i g1_f g1_c g1 (fun y=>[(.agg (B3 y))]) (fun y=>[.b y])) {r:Bool} (h:H9 a0 g1 = some r) :
  F2 tab c H (.fn (.func 82) [] []) [(.seq 4 (List.map B3 a0)),.fn (.func g1_i) g1_f g1_c] [.b r]:= by
 unfold H9 at h
 refine cE rfl rfl<|s0<|qm rfl<|es (ra2 rfl rfl)<|s0<|oB h fun x1 hx1 h=>qm rfl<|qm rfl<|B8 (rs:=[.i x1]) rfl rfl (A2 rfl (A2 rfl B5)) ((R7 (Impl.app g1_h _) hx1).frz)<|A0 (B0a rfl rfl) rfl<|qm rfl<|es (ra1 rfl)<|C7 ?_
 obtain rfl:=os h
 exact retq trivial (A9 rfl C0) (A5 rfl B9) (A3 A4 B1)
def S4 (a0:(List PaFigure)) (a1:Int) (g2:(PaFigure→Option ByteArray)):Option Int :=
 (idx a0 a1).bind fun x1 =>
 (g2 x1).bind fun x2 =>
 (A34 x2).bind fun x3 =>
 if (!x3) = true then
  some 6
 else
  (slc a0 0 a1).bind fun x5 =>
  (H9 x5 (fun (y:PaFigure)=>M1 y g2 a0 a1)).bind fun x6 =>
  if x6 = true then
  some 5
  else
  some 0
theorem A18 {c:Sc} {H:A1} {a0:(List PaFigure)} {a1:Int} {g2:PaFigure→Option ByteArray} {g2_i:Nat} {g2_f g2_c:List AV} (g2_h:Impl tab H g2_i g2_f g2_c g2 (fun y=>[(.agg (B3 y))]) (fun y=>[.s y])) {r:Int} (h:S4 a0 a1 g2 = some r) :
  F2 tab c H (.fn (.func 67) [] []) [(.seq 4 (List.map B3 a0)),.i a1,.fn (.func g2_i) g2_f g2_c] [.i r]:= by
 unfold S4 at h
 refine cE rfl rfl<|sg 0 rfl<|A0 (F9 (cs:=(cL 4 B3) a0) rfl rfl rfl) rfl<|A0 (F9 (cs:=cI a1) rfl rfl rfl) rfl<|A0 (F9 (cs:=[(.fn (.func g2_i) g2_f g2_c)]) rfl rfl rfl) rfl<|qm rfl<|es (ra3 rfl rfl rfl)<|C6<|C4<|s0<|oB h fun x1 hx1 h=>oB h fun x2 hx2 h=>oB h fun x3 hx3 h=>A0 (B7 (x:=(.fn (.func g2_i) g2_f g2_c)) rfl rfl rfl) rfl<|A0 (B7 rfl rfl rfl) rfl<|A0 (B7 rfl rfl rfl) rfl<|A0 (J0 (f:=B3) rfl rfl hx1) rfl<|A0 (H8 rfl rfl) rfl<|B8 (rs:=[.s x2]) rfl rfl (A2 (D8 rfl) B5) (Impl.call g2_h hx2 _)<|B8 (rs:=[.b x3]) rfl rfl (A2 rfl B5) ((A6h hx3).frz)<|A0 (A5m rfl) rfl<|qm rfl<|es (ra4 rfl rfl rfl rfl)<|wi h rfl (fun hc4 h=>?_) fun hc4 h=>?_
 ·refine s0<|qm rfl<|es (ra1 rfl)<|C7 ?_
  obtain rfl:=os h
  exact retq trivial (A9 rfl C0) (A5 rfl B9) (A3 A4 B1)
 ·refine s0<|oB h fun x5 hx5 h=>oB h fun x6 hx6 h=>A0 (B7 rfl rfl rfl) rfl<|A0 (B7 rfl rfl rfl) rfl<|A0 (B74 (f:=B3) rfl rfl rfl hx5) rfl<|A0 (A0q rfl rfl) rfl<|B8 (rs:=[.b x6]) rfl rfl (A2 rfl (A2 rfl B5)) ((P8 (show Impl _ _ 83 [] [(.ptr (H.length + 2) 0),(.ptr (H.length + 0) 0),(.ptr (H.length + 1) 0)] (fun (y:PaFigure)=>M1 y g2 a0 a1) (fun (y:PaFigure)=>[(.agg (B3 y))]) (fun (y:Bool)=>[.b y]) from ⟨⟨B1,(by rw [List.length_append]; exact (A3 (R0 rfl) (A3 (R0 rfl) (A3 (R0 rfl) B1))))⟩,fun H' hle hag c y r hr=>(A0k (A1e (Impl.mono (Impl.app g2_h _) hle hag) (hag _ _ (D5 rfl)) (hag _ _ (D5 rfl)) (hag _ _ (D5 rfl)) hr)).frz⟩) hx6).frz)<|qm rfl<|es (ra1 rfl)<|wi h rfl (fun hc7 h=>?_) fun hc7 h=>?_
  ·refine s0<|qm rfl<|es (ra1 rfl)<|C7 ?_
   obtain rfl:=os h
   exact retq trivial (A9 rfl C0) (A5 rfl B9) (A3 A4 B1)
  ·refine C9<|s0<|qm rfl<|es (ra1 rfl)<|C7 ?_
   obtain rfl:=os h
   exact retq trivial (A9 rfl C0) (A5 rfl B9) (A3 A4 B1)
def N5 (a0:PaGown) (g1:(PaGown→Option ByteArray)) (a2:(List PaGown)) (a3:Int):Option Bool :=
 (g1 a0).bind fun x1 =>
 (idx a2 a3).bind fun x2 =>
 (g1 x2).bind fun x3 =>
 some (eqS x1 x3)
theorem A19 {c:Sc} {H:A1} {a0:PaGown} {g1:PaGown→Option ByteArray} {g1_i:Nat} {g1_f g1_c:List AV} (g1_h:Impl tab H g1_i g1_f g1_c g1 (fun y=>[(.agg (C1 y))]) (fun y=>[.s y])) {b1:Nat} (hb1:hcells H b1 = some [.fn (.func g1_i) g1_f g1_c]) {a2:(List PaGown)} {b2:Nat} (hb2:hcells H b2 = some ((cL 8 C1) a2)) {a3:Int} {b3:Nat} (hb3:hcells H b3 = some (cI a3)) {r:Bool} (h:N5 a0 g1 a2 a3 = some r) :
  F2 tab c H (.fn (.func 81) [] []) [(.agg (C1 a0)),.ptr b1 0,.ptr b2 0,.ptr b3 0] [.b r]:= by
 unfold N5 at h
 refine cE rfl rfl<|sg 0 rfl<|A0 (F9 (cs:=C1 a0) rfl rfl rfl) rfl<|qm rfl<|es (ra4 rfl rfl rfl rfl)<|s0<|oB h fun x1 hx1 h=>oB h fun x2 hx2 h=>oB h fun x3 hx3 h=>A0 (E9 (x:=(.fn (.func g1_i) g1_f g1_c)) rfl hb1 rfl) rfl<|A0 (E5 rfl rfl rfl) rfl<|S3 (rs:=[.s x1]) rfl rfl (A8f rfl A0t) (A2 (D8 rfl) B5) (Impl.callP g1_h hx1 _)<|A0 (E9 (x:=(.fn (.func g1_i) g1_f g1_c)) rfl hb1 rfl) rfl<|A0 (E9 rfl hb2 rfl) rfl<|A0 (E9 rfl hb3 rfl) rfl<|A0 (J0 (f:=C1) rfl rfl hx2) rfl<|A0 (H8 rfl rfl) rfl<|B8 (rs:=[.s x3]) rfl rfl (A2 (D8 rfl) B5) (Impl.call g1_h hx3 _)<|A0 (C69 rfl rfl) rfl<|qm rfl<|es (ra1 rfl)<|C7 ?_
 obtain rfl:=os h
 exact retq trivial (A9 rfl C0) (A5 rfl B9) (A3 A4 B1)
def L9 (a0:(List PaGown)) (g1:(PaGown→Option Bool)) (s1:Int):Option (Int ⊕ (Int ⊕ Unit)) :=
 if (decide (s1 < (List.length a0:Int))) = true then
  (idx a0 s1).bind fun x4 =>
  (g1 x4).bind fun x5 =>
  if x5 = true then
  some (.inr (.inl s1))
  else
  some (.inl (w64 (s1 + 1)))
 else
  some (.inr (.inr ()))
def K2 (a0:(List PaGown)) (g1:(PaGown→Option Bool)):Option Int :=
 (loop (L9 a0 g1) 0).bind fun (o7:(Int ⊕ Unit)) =>
 match o7 with
 | (.inl vo7_0) =>
  some vo7_0
 | (.inr vo7_1) =>
  some (-1)
theorem U2 {c:Sc} {H:A1} {a0:(List PaGown)} {g1:PaGown→Option Bool} {g1_i:Nat} {g1_f g1_c:List AV} (g1_h:Impl tab H g1_i g1_f g1_c g1 (fun y=>[(.agg (C1 y))]) (fun y=>[.b y])) {r:Int} (h:K2 a0 g1 = some r) :
  F2 tab c H (.fn (.func 97) [] []) [(.seq 8 (List.map C1 a0)),.fn (.func g1_i) g1_f g1_c] [.i r]:= by
 unfold K2 at h
 refine cE rfl rfl<|s0<|qm rfl<|es (ra2 rfl rfl)<|C6<|s0<|qm rfl<|A0 (I6 (f:=C1) rfl) rfl<|qm rfl<|es (ra4 rfl rfl rfl rfl)<|C4<|oB h fun o7 ho7 h=>wl (fun s1=>[(0,(.seq 8 (List.map C1 a0))),(1,(.fn (.func g1_i) g1_f g1_c)),(7,(.i (List.length a0:Int))),(8,.i s1)]) (fun (q2:Unit) s1=>[]) 0 (fun r e s' H'=>(match r with | (.inl v)=>e = .ret∧RetQ H [.tmp 4] [.i v] e s' H' | (.inr v)=>PX 0 [] (H++[]) e s' H':Prop)) () ho7 rfl rfl (fun _ _=>rfl) (fun _=>rfl) rfl (fun s1=>(bdc M0 (bdc (B64 g1_h.1) (bdc A4 (bdc A4 bdn))))) (fun q2 s1 ys1 hs1=>?_) ?_
 ·unfold L9 at hs1
  refine s0<|A0 (L5 rfl rfl) rfl<|es (ra5 rfl rfl rfl rfl rfl)<|C6<|wi hs1 rfl (fun hc3 hs1=>?_) fun hc3 hs1=>?_
  ·refine C9<|C6<|C4<|s0<|qm rfl<|qm rfl<|es (ra5 rfl rfl rfl rfl rfl)<|s0<|oB hs1 fun x4 hx4 hs1=>oB hs1 fun x5 hx5 hs1=>qm rfl<|qm rfl<|qm rfl<|A0 (J0 (f:=C1) rfl rfl hx4) rfl<|A0 (H8 rfl rfl) rfl<|B8 (rs:=[.b x5]) rfl rfl (A2 (D8 rfl) B5) (Impl.call g1_h hx5 _)<|es (ra6 rfl rfl rfl rfl rfl rfl)<|wi hs1 rfl (fun hc6 hs1=>?_) fun hc6 hs1=>?_
   ·refine s0<|qm rfl<|qm rfl<|es (ra1 rfl)<|C7 ?_
    obtain rfl:=os hs1
    exact lx rfl (And.intro rfl (retq trivial (A9 rfl C0) (A5 rfl B9) (A3 A4 B1))) (Sub.refl _)
   ·refine C9<|r0<|A0 (G6 rfl rfl) rfl<|qm rfl<|en (ra4 rfl rfl rfl rfl) ?_
    cases hs1
    exact lnT () rfl (su4 rfl rfl rfl rfl)
  ·refine K4 ?_
   obtain rfl:=os hs1
   exact lx rfl px (.nil _)
 ·rcases o7 with vo7_0 | vo7_1
  ·rintro e s' H' - ⟨rfl,hret⟩
   cases h
   exact hret
  ·rintro e s' H' - ⟨rfl,rfl,rfl⟩
   refine s0<|qm rfl<|es (ra1 rfl)<|C7 ?_
   obtain rfl:=os h
   exact retq trivial (A9 rfl C0) (A5 rfl B9) (A3 A4 B1)
def J1 (a0:(List PaGown)) (g1:(PaGown→Option Bool)):Option Bool :=
 (K2 a0 g1).bind fun x1 =>
 some (decide (x1 ≥ 0))
theorem S0 {c:Sc} {H:A1} {a0:(List PaGown)} {g1:PaGown→Option Bool} {g1_i:Nat} {g1_f g1_c:List AV} (g1_h:Impl tab H g1_i g1_f g1_c g1 (fun y=>[(.agg (C1 y))]) (fun y=>[.b y])) {r:Bool} (h:J1 a0 g1 = some r) :
  F2 tab c H (.fn (.func 80) [] []) [(.seq 8 (List.map C1 a0)),.fn (.func g1_i) g1_f g1_c] [.b r]:= by
 unfold J1 at h
 refine cE rfl rfl<|s0<|qm rfl<|es (ra2 rfl rfl)<|s0<|oB h fun x1 hx1 h=>qm rfl<|qm rfl<|B8 (rs:=[.i x1]) rfl rfl (A2 rfl (A2 rfl B5)) ((U2 (Impl.app g1_h _) hx1).frz)<|A0 (B0a rfl rfl) rfl<|qm rfl<|es (ra1 rfl)<|C7 ?_
 obtain rfl:=os h
 exact retq trivial (A9 rfl C0) (A5 rfl B9) (A3 A4 B1)
def U8 (a0:(List PaGown)) (a1:Int) (g2:(PaGown→Option ByteArray)):Option Int :=
 (idx a0 a1).bind fun x1 =>
 (g2 x1).bind fun x2 =>
 (A34 x2).bind fun x3 =>
 if (!x3) = true then
  some 6
 else
  (slc a0 0 a1).bind fun x5 =>
  (J1 x5 (fun (y:PaGown)=>N5 y g2 a0 a1)).bind fun x6 =>
  if x6 = true then
  some 5
  else
  some 0
theorem A24 {c:Sc} {H:A1} {a0:(List PaGown)} {a1:Int} {g2:PaGown→Option ByteArray} {g2_i:Nat} {g2_f g2_c:List AV} (g2_h:Impl tab H g2_i g2_f g2_c g2 (fun y=>[(.agg (C1 y))]) (fun y=>[.s y])) {r:Int} (h:U8 a0 a1 g2 = some r) :
  F2 tab c H (.fn (.func 64) [] []) [(.seq 8 (List.map C1 a0)),.i a1,.fn (.func g2_i) g2_f g2_c] [.i r]:= by
 unfold U8 at h
 refine cE rfl rfl<|sg 0 rfl<|A0 (F9 (cs:=(cL 8 C1) a0) rfl rfl rfl) rfl<|A0 (F9 (cs:=cI a1) rfl rfl rfl) rfl<|A0 (F9 (cs:=[(.fn (.func g2_i) g2_f g2_c)]) rfl rfl rfl) rfl<|qm rfl<|es (ra3 rfl rfl rfl)<|C6<|C4<|s0<|oB h fun x1 hx1 h=>oB h fun x2 hx2 h=>oB h fun x3 hx3 h=>A0 (B7 (x:=(.fn (.func g2_i) g2_f g2_c)) rfl rfl rfl) rfl<|A0 (B7 rfl rfl rfl) rfl<|A0 (B7 rfl rfl rfl) rfl<|A0 (J0 (f:=C1) rfl rfl hx1) rfl<|A0 (H8 rfl rfl) rfl<|B8 (rs:=[.s x2]) rfl rfl (A2 (D8 rfl) B5) (Impl.call g2_h hx2 _)<|B8 (rs:=[.b x3]) rfl rfl (A2 rfl B5) ((A6h hx3).frz)<|A0 (A5m rfl) rfl<|qm rfl<|es (ra4 rfl rfl rfl rfl)<|wi h rfl (fun hc4 h=>?_) fun hc4 h=>?_
 ·refine s0<|qm rfl<|es (ra1 rfl)<|C7 ?_
  obtain rfl:=os h
  exact retq trivial (A9 rfl C0) (A5 rfl B9) (A3 A4 B1)
 ·refine s0<|oB h fun x5 hx5 h=>oB h fun x6 hx6 h=>A0 (B7 rfl rfl rfl) rfl<|A0 (B7 rfl rfl rfl) rfl<|A0 (B74 (f:=C1) rfl rfl rfl hx5) rfl<|A0 (A0q rfl rfl) rfl<|B8 (rs:=[.b x6]) rfl rfl (A2 rfl (A2 rfl B5)) ((S0 (show Impl _ _ 81 [] [(.ptr (H.length + 2) 0),(.ptr (H.length + 0) 0),(.ptr (H.length + 1) 0)] (fun (y:PaGown)=>N5 y g2 a0 a1) (fun (y:PaGown)=>[(.agg (C1 y))]) (fun (y:Bool)=>[.b y]) from ⟨⟨B1,(by rw [List.length_append]; exact (A3 (R0 rfl) (A3 (R0 rfl) (A3 (R0 rfl) B1))))⟩,fun H' hle hag c y r hr=>(A0k (A19 (Impl.mono (Impl.app g2_h _) hle hag) (hag _ _ (D5 rfl)) (hag _ _ (D5 rfl)) (hag _ _ (D5 rfl)) hr)).frz⟩) hx6).frz)<|qm rfl<|es (ra1 rfl)<|wi h rfl (fun hc7 h=>?_) fun hc7 h=>?_
  ·refine s0<|qm rfl<|es (ra1 rfl)<|C7 ?_
   obtain rfl:=os h
   exact retq trivial (A9 rfl C0) (A5 rfl B9) (A3 A4 B1)
  ·refine C9<|s0<|qm rfl<|es (ra1 rfl)<|C7 ?_
   obtain rfl:=os h
   exact retq trivial (A9 rfl C0) (A5 rfl B9) (A3 A4 B1)
def A7e (a0:PaGown):Option Bool :=
 if (!a0.Pawn) = true then
  (F3 0 15 [a0.Looks]).bind fun x2 =>
  (if x2 = true then
  some true
  else
  (F3 0 0 [a0.Loan,a0.Rate,a0.Fee,a0.Ago,a0.Last]).bind fun x4 =>
  some x4).bind fun x5 =>
  some x5
 else
  (F3 0 15 [a0.Looks]).bind fun x6 =>
  (if x6 = true then
  some true
  else
  (F3 0 5000 [a0.Loan]).bind fun x8 =>
  some x8).bind fun x9 =>
  (if x9 = true then
  some true
  else
  (F3 0 500 [a0.Rate]).bind fun x11 =>
  some x11).bind fun x12 =>
  (if x12 = true then
  some true
  else
  (F3 0 100 [a0.Fee]).bind fun x14 =>
  some x14).bind fun x15 =>
  (if x15 = true then
  some true
  else
  (F3 0 364 [a0.Ago,a0.Last]).bind fun x17 =>
  some x17).bind fun x18 =>
  some x18
theorem B38 {c:Sc} {H:A1} {a0:PaGown} {r:Bool} (h:A7e a0 = some r) :
  F2 tab c H (.fn (.func 66) [] []) [(.agg (C1 a0))] [.b r]:= by
 unfold A7e at h
 refine cE rfl rfl<|sg 0 rfl<|A0 (F9 (cs:=C1 a0) rfl rfl rfl) rfl<|qm rfl<|es (ra1 rfl)<|C6<|s0<|A0 (C3 rfl) rfl<|A0 (B7 rfl rfl rfl) rfl<|A0 (A5m rfl) rfl<|es (ra2 rfl rfl)<|wi h rfl (fun hc1 h=>?_) fun hc1 h=>?_
 ·refine s0<|oB h fun x2 hx2 h=>oB h fun x5 hx5 h=>A0 (C3 rfl) rfl<|A0 (B7 rfl rfl rfl) rfl<|A0 (I1 (rows:=List.map cI [a0.Looks]) rfl rfl (E0 (fun _=>rfl) _)) rfl<|B8 (rs:=[.b x2]) rfl rfl (A2 rfl (A2 rfl (A2 rfl B5))) ((E3 hx2).frz)<|qm rfl<|gp 13 23 (.b x5) 10 rfl rfl (fun hg3=>?_) (fun hg3=>?_) ?_
  ·obtain rfl:=os (bt hx5 hg3)
   exact nF rfl hg3 rfl<|nF rfl hg3 rfl<|nF rfl hg3 rfl<|nF rfl hg3 rfl<|nF rfl hg3 rfl<|nF rfl hg3 rfl<|nF rfl hg3 rfl<|nF rfl hg3 rfl<|nF rfl hg3 rfl<|nF rfl hg3 rfl<|nF rfl hg3 rfl<|K6 (F4 rfl (by rw [hg3]; rfl)) rfl<|A0 (D1 rfl hg3 rfl) rfl<|ge 13 rfl rfl rfl
  ·refine oB (bf hx5 hg3) fun x4 hx4 hx5=>?_
   obtain rfl:=os hx5
   exact gF rfl hg3<|A0 (C3 rfl) rfl<|gF rfl hg3<|A0 (B7 rfl rfl rfl) rfl<|gF rfl hg3<|A0 (C3 rfl) rfl<|gF rfl hg3<|A0 (B7 rfl rfl rfl) rfl<|gF rfl hg3<|A0 (C3 rfl) rfl<|gF rfl hg3<|A0 (B7 rfl rfl rfl) rfl<|gF rfl hg3<|A0 (C3 rfl) rfl<|gF rfl hg3<|A0 (B7 rfl rfl rfl) rfl<|gF rfl hg3<|A0 (C3 rfl) rfl<|gF rfl hg3<|A0 (B7 rfl rfl rfl) rfl<|gF rfl hg3<|A0 (I1 (rows:=List.map cI [a0.Loan,a0.Rate,a0.Fee,a0.Ago,a0.Last]) rfl rfl (E0 (fun _=>rfl) _)) rfl<|gF rfl hg3<|B8 (rs:=[.b x4]) rfl rfl (A2 rfl (A2 rfl (A2 rfl B5))) ((E3 hx4).frz)<|A0 (D0 rfl hg3 rfl) rfl<|ge 13 rfl rfl rfl
  refine qm rfl<|es (ra1 rfl)<|C7 ?_
  obtain rfl:=os h
  exact retq trivial (A9 rfl C0) (A5 rfl B9) (A3 A4 B1)
 ·refine C9<|s0<|oB h fun x6 hx6 h=>oB h fun x9 hx9 h=>oB h fun x12 hx12 h=>oB h fun x15 hx15 h=>oB h fun x18 hx18 h=>A0 (C3 rfl) rfl<|A0 (B7 rfl rfl rfl) rfl<|A0 (I1 (rows:=List.map cI [a0.Looks]) rfl rfl (E0 (fun _=>rfl) _)) rfl<|B8 (rs:=[.b x6]) rfl rfl (A2 rfl (A2 rfl (A2 rfl B5))) ((E3 hx6).frz)<|qm rfl<|gp 5 33 (.b x9) 28 rfl rfl (fun hg7=>?_) (fun hg7=>?_) ?_
  ·obtain rfl:=os (bt hx9 hg7)
   exact nF rfl hg7 rfl<|nF rfl hg7 rfl<|nF rfl hg7 rfl<|K6 (F4 rfl (by rw [hg7]; rfl)) rfl<|A0 (D1 rfl hg7 rfl) rfl<|ge 5 rfl rfl rfl
  ·refine oB (bf hx9 hg7) fun x8 hx8 hx9=>?_
   obtain rfl:=os hx9
   exact gF rfl hg7<|A0 (C3 rfl) rfl<|gF rfl hg7<|A0 (B7 rfl rfl rfl) rfl<|gF rfl hg7<|A0 (I1 (rows:=List.map cI [a0.Loan]) rfl rfl (E0 (fun _=>rfl) _)) rfl<|gF rfl hg7<|B8 (rs:=[.b x8]) rfl rfl (A2 rfl (A2 rfl (A2 rfl B5))) ((E3 hx8).frz)<|A0 (D0 rfl hg7 rfl) rfl<|ge 5 rfl rfl rfl
  refine qm rfl<|gp 5 39 (.b x12) 34 rfl rfl (fun hg10=>?_) (fun hg10=>?_) ?_
  ·obtain rfl:=os (bt hx12 hg10)
   exact nF rfl hg10 rfl<|nF rfl hg10 rfl<|nF rfl hg10 rfl<|K6 (F4 rfl (by rw [hg10]; rfl)) rfl<|A0 (D1 rfl hg10 rfl) rfl<|ge 5 rfl rfl rfl
  ·refine oB (bf hx12 hg10) fun x11 hx11 hx12=>?_
   obtain rfl:=os hx12
   exact gF rfl hg10<|A0 (C3 rfl) rfl<|gF rfl hg10<|A0 (B7 rfl rfl rfl) rfl<|gF rfl hg10<|A0 (I1 (rows:=List.map cI [a0.Rate]) rfl rfl (E0 (fun _=>rfl) _)) rfl<|gF rfl hg10<|B8 (rs:=[.b x11]) rfl rfl (A2 rfl (A2 rfl (A2 rfl B5))) ((E3 hx11).frz)<|A0 (D0 rfl hg10 rfl) rfl<|ge 5 rfl rfl rfl
  refine qm rfl<|gp 5 45 (.b x15) 40 rfl rfl (fun hg13=>?_) (fun hg13=>?_) ?_
  ·obtain rfl:=os (bt hx15 hg13)
   exact nF rfl hg13 rfl<|nF rfl hg13 rfl<|nF rfl hg13 rfl<|K6 (F4 rfl (by rw [hg13]; rfl)) rfl<|A0 (D1 rfl hg13 rfl) rfl<|ge 5 rfl rfl rfl
  ·refine oB (bf hx15 hg13) fun x14 hx14 hx15=>?_
   obtain rfl:=os hx15
   exact gF rfl hg13<|A0 (C3 rfl) rfl<|gF rfl hg13<|A0 (B7 rfl rfl rfl) rfl<|gF rfl hg13<|A0 (I1 (rows:=List.map cI [a0.Fee]) rfl rfl (E0 (fun _=>rfl) _)) rfl<|gF rfl hg13<|B8 (rs:=[.b x14]) rfl rfl (A2 rfl (A2 rfl (A2 rfl B5))) ((E3 hx14).frz)<|A0 (D0 rfl hg13 rfl) rfl<|ge 5 rfl rfl rfl
  refine qm rfl<|gp 7 53 (.b x18) 46 rfl rfl (fun hg16=>?_) (fun hg16=>?_) ?_
  ·obtain rfl:=os (bt hx18 hg16)
   exact nF rfl hg16 rfl<|nF rfl hg16 rfl<|nF rfl hg16 rfl<|nF rfl hg16 rfl<|nF rfl hg16 rfl<|K6 (F4 rfl (by rw [hg16]; rfl)) rfl<|A0 (D1 rfl hg16 rfl) rfl<|ge 7 rfl rfl rfl
  ·refine oB (bf hx18 hg16) fun x17 hx17 hx18=>?_
   obtain rfl:=os hx18
   exact gF rfl hg16<|A0 (C3 rfl) rfl<|gF rfl hg16<|A0 (B7 rfl rfl rfl) rfl<|gF rfl hg16<|A0 (C3 rfl) rfl<|gF rfl hg16<|A0 (B7 rfl rfl rfl) rfl<|gF rfl hg16<|A0 (I1 (rows:=List.map cI [a0.Ago,a0.Last]) rfl rfl (E0 (fun _=>rfl) _)) rfl<|gF rfl hg16<|B8 (rs:=[.b x17]) rfl rfl (A2 rfl (A2 rfl (A2 rfl B5))) ((E3 hx17).frz)<|A0 (D0 rfl hg16 rfl) rfl<|ge 7 rfl rfl rfl
  refine qm rfl<|es (ra1 rfl)<|C7 ?_
  obtain rfl:=os h
  exact retq trivial (A9 rfl C0) (A5 rfl B9) (A3 A4 B1)
def A6m (a0:PaShow) (s2:Int):Option (Int ⊕ ((Int × Int × Int) ⊕ Unit)) :=
 if (decide (s2 < (List.length a0.Gowns:Int))) = true then
  (idx a0.Gowns s2).bind fun x5 =>
  (U8 a0.Gowns s2 (fun (y:PaGown)=>A1p y)).bind fun x6 =>
  (if (x6 == 0) = true then
  (A7e x5).bind fun x8 =>
  some x8
  else
  some false).bind fun x9 =>
  if x9 = true then
  some (.inr (.inl (1,s2,7)))
  else
  if (x6 != 0) = true then
   some (.inr (.inl (1,s2,x6)))
  else
   some (.inl (w64 (s2 + 1)))
 else
  some (.inr (.inr ()))
def A6n (a0:PaShow) (s14:Int):Option (Int ⊕ ((Int × Int × Int) ⊕ Unit)) :=
 if (decide (s14 < (List.length a0.Figures:Int))) = true then
  (idx a0.Figures s14).bind fun x17 =>
  (S4 a0.Figures s14 (fun (y:PaFigure)=>A1q y)).bind fun x18 =>
  if (x18 != 0) = true then
  some (.inr (.inl (2,s14,x18)))
  else
  (F3 0 364 [x17.Day,x17.Until]).bind fun x20 =>
  (if x20 = true then
   some true
  else
   (F3 0 15 [x17.Needs]).bind fun x22 =>
   some x22).bind fun x23 =>
  if x23 = true then
   some (.inr (.inl (2,s14,7)))
  else
   if (decide (x17.Day > x17.Until)) = true then
   some (.inr (.inl (2,s14,2)))
   else
   some (.inl (w64 (s14 + 1)))
 else
  some (.inr (.inr ()))
def A6o (a0:PaShow) (s30:Int):Option (Int ⊕ ((Int × Int × Int) ⊕ Unit)) :=
 if (decide (s30 < (List.length a0.Incomes:Int))) = true then
  (idx a0.Incomes s30).bind fun x33 =>
  (F3 0 364 [x33.Day]).bind fun x34 =>
  (if x34 = true then
  some true
  else
  (F3 0 10000 [x33.Pence]).bind fun x36 =>
  some x36).bind fun x37 =>
  if x37 = true then
  some (.inr (.inl (4,s30,7)))
  else
  some (.inl (w64 (s30 + 1)))
 else
  some (.inr (.inr ()))
def A37 (a0:PaShow):Option (Int × Int × Int) :=
 if (decide ((List.length a0.Gowns:Int) > 5)) = true then
  some (1,0,3)
 else
  (loop (A6m a0) 0).bind fun (o12:((Int × Int × Int) ⊕ Unit)) =>
  match o12 with
  | (.inl vo12_0) =>
  some vo12_0
  | (.inr vo12_1) =>
  if (decide ((List.length a0.Figures:Int) > 3)) = true then
   some (2,0,3)
  else
   (loop (A6n a0) 0).bind fun (o26:((Int × Int × Int) ⊕ Unit)) =>
   match o26 with
   | (.inl vo26_0) =>
   some vo26_0
   | (.inr vo26_1) =>
   (F3 0 10000 [a0.Purse]).bind fun x27 =>
   if x27 = true then
    some (3,0,7)
   else
    if (decide ((List.length a0.Incomes:Int) > 3)) = true then
    some (4,0,3)
    else
    (loop (A6o a0) 0).bind fun (o39:((Int × Int × Int) ⊕ Unit)) =>
    match o39 with
    | (.inl vo39_0) =>
     some vo39_0
    | (.inr vo39_1) =>
     some (0,0,0)
theorem A6i {c:Sc} {H:A1} {a0:PaShow} {r:(Int × Int × Int)} (h:A37 a0 = some r) :
  F2 tab c H (.fn (.func 40) [] []) [(.agg (B6 a0))] [.i r.1,.i r.2.1,.i r.2.2]:= by
 unfold A37 at h
 refine cE rfl rfl<|sg 0 rfl<|A0 (F9 (cs:=B6 a0) rfl rfl rfl) rfl<|qm rfl<|qm rfl<|qm rfl<|es (ra1 rfl)<|C6<|s0<|A0 (C3 rfl) rfl<|A0 (B7 rfl rfl rfl) rfl<|A0 (I6 (f:=C1) rfl) rfl<|A0 (A4m rfl rfl) rfl<|es (ra2 rfl rfl)<|wi h rfl (fun hc1 h=>?_) fun hc1 h=>?_
 ·refine s0<|qm rfl<|qm rfl<|qm rfl<|es (ra3 rfl rfl rfl)<|C7 ?_
  obtain rfl:=os h
  exact retq trivial (A9 rfl (A9 rfl (A9 rfl C0))) (A5 rfl (A5 rfl (A5 rfl B9))) (A3 A4 (A3 A4 (A3 A4 B1)))
 ·refine C9<|C6<|s0<|A0 (C3 rfl) rfl<|A0 (B7 rfl rfl rfl) rfl<|A0 (I6 (f:=C1) rfl) rfl<|qm rfl<|es (ra4 rfl rfl rfl rfl)<|C4<|oB h fun o12 ho12 h=>wl (fun s2=>[(1,(.ptr (H.length + 0) 0)),(16,(.seq 8 (List.map C1 a0.Gowns))),(17,(.i (List.length a0.Gowns:Int))),(18,.i s2)]) (fun (q3:Unit) s2=>[(.cells (B6 a0))]) 1 (fun r e s' H'=>(match r with | (.inl v)=>e = .ret∧RetQ H [.tmp 2,.tmp 3,.tmp 4] [.i v.1,.i v.2.1,.i v.2.2] e s' H' | (.inr v)=>PX 0 [(1,(.ptr (H.length + 0) 0))] (H++[(.cells (B6 a0))]) e s' H':Prop)) () ho12 rfl rfl (fun _ _=>rfl) (fun _=>rfl) rfl (fun s2=>(bdc (R0 rfl) (bdc M0 (bdc A4 (bdc A4 bdn))))) (fun q3 s2 ys2 hs2=>?_) ?_
  ·unfold A6m at hs2
   refine s0<|A0 (L5 rfl rfl) rfl<|es (ra5 rfl rfl rfl rfl rfl)<|C6<|wi hs2 rfl (fun hc4 hs2=>?_) fun hc4 hs2=>?_
   ·refine C9<|C6<|C4<|sg 1 rfl<|oB hs2 fun x5 hx5 hs2=>qm rfl<|A0 (J0 (f:=C1) rfl rfl hx5) rfl<|A0 (H8 rfl rfl) rfl<|A0 G8 rfl<|qm rfl<|M4 (E4 (ds:=(C1 x5)) rfl rfl rfl rfl (D9 rfl) rfl) rfl<|es (ra6 rfl rfl rfl rfl rfl rfl)<|s0<|oB hs2 fun x6 hx6 hs2=>A0 (C3 rfl) rfl<|A0 (B7 rfl rfl rfl) rfl<|qm rfl<|B8 (rs:=[.i x6]) rfl rfl (A2 rfl (A2 rfl (A2 rfl B5))) ((A24 (show Impl _ _ 65 [] [] (fun (y:PaGown)=>A1p y) (fun (y:PaGown)=>[(.agg (C1 y))]) (fun (y:ByteArray)=>[.s y]) from ⟨⟨B1,B1⟩,fun H' hle hag c y r hr=>(B06 hr).frz⟩) hx6).frz)<|qm rfl<|es (ra7 rfl rfl rfl rfl rfl rfl rfl)<|C6<|s0<|oB hs2 fun x9 hx9 hs2=>qm rfl<|A0 (I3 rfl rfl) rfl<|qm rfl<|gp 3 32 (.b x9) 29 rfl rfl (fun hg7=>?_) (fun hg7=>?_) ?_
    ·refine oB (bt hx9 hg7) fun x8 hx8 hx9=>?_
     obtain rfl:=os hx9
     exact gT rfl hg7<|A0 (E5 rfl rfl rfl) rfl<|gT rfl hg7<|B8 (rs:=[.b x8]) rfl rfl (A2 (D8 rfl) B5) ((B38 hx8).frz)<|A0 (D1 rfl hg7 rfl) rfl<|ge 3 rfl rfl rfl
    ·obtain rfl:=os (bf hx9 hg7)
     exact nT rfl hg7 rfl<|K6 (F4 rfl (by rw [hg7]; rfl)) rfl<|A0 (D0 rfl hg7 rfl) rfl<|ge 3 rfl rfl rfl
    refine es (ra7 rfl rfl rfl rfl rfl rfl rfl)<|wi hs2 rfl (fun hc10 hs2=>?_) fun hc10 hs2=>?_
    ·refine r0<|qm rfl<|en (ra6 rfl rfl rfl rfl rfl rfl)<|s0<|qm rfl<|A0 (Q5 (v:=(.b true)) rfl rfl rfl) rfl<|es (ra7 rfl rfl rfl rfl rfl rfl rfl)<|M3 rfl rfl<|s0<|qm rfl<|qm rfl<|qm rfl<|qm rfl<|qm rfl<|es (ra3 rfl rfl rfl)<|C7 ?_
     obtain rfl:=os hs2
     exact lx rfl (And.intro rfl (retq trivial (A9 rfl (A9 rfl (A9 rfl C0))) (A5 rfl (A5 rfl (A5 rfl B9))) (A3 A4 (A3 A4 (A3 A4 B1))))) (Sub.refl _)
    ·refine C9<|s0<|qm rfl<|A0 (P6 rfl rfl) rfl<|es (ra7 rfl rfl rfl rfl rfl rfl rfl)<|wi hs2 rfl (fun hc11 hs2=>?_) fun hc11 hs2=>?_
     ·refine s0<|qm rfl<|qm rfl<|qm rfl<|qm rfl<|qm rfl<|es (ra3 rfl rfl rfl)<|C7 ?_
      obtain rfl:=os hs2
      exact lx rfl (And.intro rfl (retq trivial (A9 rfl (A9 rfl (A9 rfl C0))) (A5 rfl (A5 rfl (A5 rfl B9))) (A3 A4 (A3 A4 (A3 A4 B1))))) (Sub.refl _)
     ·refine C9<|r0<|A0 (G6 rfl rfl) rfl<|qm rfl<|en (ra4 rfl rfl rfl rfl) ?_
      cases hs2
      exact lnT () rfl (su4 rfl rfl rfl rfl)
   ·refine K4 ?_
    obtain rfl:=os hs2
    exact lx rfl px (su1 rfl)
  ·rcases o12 with vo12_0 | vo12_1
   ·rintro e s' H' - ⟨rfl,hret⟩
    cases h
    exact hret
   ·rintro e s' H' - ⟨rfl,rfl,rfl⟩
    refine C6<|s0<|A0 (C3 rfl) rfl<|A0 (B7 rfl rfl rfl) rfl<|A0 (I6 (f:=B3) rfl) rfl<|A0 (A4m rfl rfl) rfl<|es (ra2 rfl rfl)<|wi h rfl (fun hc13 h=>?_) fun hc13 h=>?_
    ·refine s0<|qm rfl<|qm rfl<|qm rfl<|es (ra3 rfl rfl rfl)<|C7 ?_
     obtain rfl:=os h
     exact retq trivial (A9 rfl (A9 rfl (A9 rfl C0))) (A5 rfl (A5 rfl (A5 rfl B9))) (A3 A4 (A3 A4 (A3 A4 B1)))
    ·refine C9<|C6<|s0<|A0 (C3 rfl) rfl<|A0 (B7 rfl rfl rfl) rfl<|A0 (I6 (f:=B3) rfl) rfl<|qm rfl<|es (ra4 rfl rfl rfl rfl)<|C4<|oB h fun o26 ho26 h=>wl (fun s14=>[(1,(.ptr (H.length + 0) 0)),(43,(.seq 4 (List.map B3 a0.Figures))),(44,(.i (List.length a0.Figures:Int))),(45,.i s14)]) (fun (q15:Unit) s14=>[(.cells (B6 a0))]) 1 (fun r e s' H'=>(match r with | (.inl v)=>e = .ret∧RetQ H [.tmp 2,.tmp 3,.tmp 4] [.i v.1,.i v.2.1,.i v.2.2] e s' H' | (.inr v)=>PX 2 [(1,(.ptr (H.length + 0) 0))] (H++[(.cells (B6 a0))]) e s' H':Prop)) () ho26 rfl rfl (fun _ _=>rfl) (fun _=>rfl) rfl (fun s14=>(bdc (R0 rfl) (bdc M0 (bdc A4 (bdc A4 bdn))))) (fun q15 s14 ys14 hs14=>?_) ?_
     ·unfold A6n at hs14
      refine s0<|A0 (L5 rfl rfl) rfl<|es (ra5 rfl rfl rfl rfl rfl)<|C6<|wi hs14 rfl (fun hc16 hs14=>?_) fun hc16 hs14=>?_
      ·refine C9<|C6<|C4<|sg 1 rfl<|oB hs14 fun x17 hx17 hs14=>qm rfl<|A0 (J0 (f:=B3) rfl rfl hx17) rfl<|A0 (H8 rfl rfl) rfl<|A0 G8 rfl<|qm rfl<|M4 (E4 (ds:=(B3 x17)) rfl rfl rfl rfl (D9 rfl) rfl) rfl<|es (ra6 rfl rfl rfl rfl rfl rfl)<|s0<|oB hs14 fun x18 hx18 hs14=>A0 (C3 rfl) rfl<|A0 (B7 rfl rfl rfl) rfl<|qm rfl<|B8 (rs:=[.i x18]) rfl rfl (A2 rfl (A2 rfl (A2 rfl B5))) ((A18 (show Impl _ _ 68 [] [] (fun (y:PaFigure)=>A1q y) (fun (y:PaFigure)=>[(.agg (B3 y))]) (fun (y:ByteArray)=>[.s y]) from ⟨⟨B1,B1⟩,fun H' hle hag c y r hr=>(B07 hr).frz⟩) hx18).frz)<|qm rfl<|es (ra7 rfl rfl rfl rfl rfl rfl rfl)<|C6<|C4<|s0<|qm rfl<|A0 (P6 rfl rfl) rfl<|qm rfl<|es (ra8 rfl rfl rfl rfl rfl rfl rfl rfl)<|wi hs14 rfl (fun hc19 hs14=>?_) fun hc19 hs14=>?_
       ·refine C9<|s0<|qm rfl<|A0 (P6 rfl rfl) rfl<|es (ra7 rfl rfl rfl rfl rfl rfl rfl)<|M3 rfl hc19<|s0<|qm rfl<|qm rfl<|qm rfl<|qm rfl<|qm rfl<|es (ra3 rfl rfl rfl)<|C7 ?_
        obtain rfl:=os hs14
        exact lx rfl (And.intro rfl (retq trivial (A9 rfl (A9 rfl (A9 rfl C0))) (A5 rfl (A5 rfl (A5 rfl B9))) (A3 A4 (A3 A4 (A3 A4 B1))))) (Sub.refl _)
       ·refine s0<|oB hs14 fun x20 hx20 hs14=>oB hs14 fun x23 hx23 hs14=>A0 (C3 rfl) rfl<|A0 (B7 rfl rfl rfl) rfl<|A0 (C3 rfl) rfl<|A0 (B7 rfl rfl rfl) rfl<|A0 (I1 (rows:=List.map cI [x17.Day,x17.Until]) rfl rfl (E0 (fun _=>rfl) _)) rfl<|B8 (rs:=[.b x20]) rfl rfl (A2 rfl (A2 rfl (A2 rfl B5))) ((E3 hx20).frz)<|qm rfl<|gp 5 69 (.b x23) 64 rfl rfl (fun hg21=>?_) (fun hg21=>?_) ?_
        ·obtain rfl:=os (bt hx23 hg21)
         exact nF rfl hg21 rfl<|nF rfl hg21 rfl<|nF rfl hg21 rfl<|K6 (F4 rfl (by rw [hg21]; rfl)) rfl<|A0 (D1 rfl hg21 rfl) rfl<|ge 5 rfl rfl rfl
        ·refine oB (bf hx23 hg21) fun x22 hx22 hx23=>?_
         obtain rfl:=os hx23
         exact gF rfl hg21<|A0 (C3 rfl) rfl<|gF rfl hg21<|A0 (B7 rfl rfl rfl) rfl<|gF rfl hg21<|A0 (I1 (rows:=List.map cI [x17.Needs]) rfl rfl (E0 (fun _=>rfl) _)) rfl<|gF rfl hg21<|B8 (rs:=[.b x22]) rfl rfl (A2 rfl (A2 rfl (A2 rfl B5))) ((E3 hx22).frz)<|A0 (D0 rfl hg21 rfl) rfl<|ge 5 rfl rfl rfl
        refine qm rfl<|es (ra8 rfl rfl rfl rfl rfl rfl rfl rfl)<|wi hs14 rfl (fun hc24 hs14=>?_) fun hc24 hs14=>?_
        ·refine r0<|qm rfl<|en (ra6 rfl rfl rfl rfl rfl rfl)<|s0<|qm rfl<|A0 (Q5 (v:=(.b true)) rfl rfl rfl) rfl<|es (ra7 rfl rfl rfl rfl rfl rfl rfl)<|M3 rfl rfl<|s0<|qm rfl<|qm rfl<|qm rfl<|qm rfl<|qm rfl<|es (ra3 rfl rfl rfl)<|C7 ?_
         obtain rfl:=os hs14
         exact lx rfl (And.intro rfl (retq trivial (A9 rfl (A9 rfl (A9 rfl C0))) (A5 rfl (A5 rfl (A5 rfl B9))) (A3 A4 (A3 A4 (A3 A4 B1))))) (Sub.refl _)
        ·refine s0<|A0 (C3 rfl) rfl<|A0 (B7 rfl rfl rfl) rfl<|A0 (C3 rfl) rfl<|A0 (B7 rfl rfl rfl) rfl<|A0 (A4m rfl rfl) rfl<|qm rfl<|es (ra7 rfl rfl rfl rfl rfl rfl rfl)<|wi hs14 rfl (fun hc25 hs14=>?_) fun hc25 hs14=>?_
         ·refine r0<|qm rfl<|en (ra6 rfl rfl rfl rfl rfl rfl)<|s0<|qm rfl<|A0 (Q5 (v:=(.b true)) rfl rfl rfl) rfl<|es (ra7 rfl rfl rfl rfl rfl rfl rfl)<|M3 rfl rfl<|s0<|qm rfl<|qm rfl<|qm rfl<|qm rfl<|qm rfl<|es (ra3 rfl rfl rfl)<|C7 ?_
          obtain rfl:=os hs14
          exact lx rfl (And.intro rfl (retq trivial (A9 rfl (A9 rfl (A9 rfl C0))) (A5 rfl (A5 rfl (A5 rfl B9))) (A3 A4 (A3 A4 (A3 A4 B1))))) (Sub.refl _)
         ·refine C9<|s0<|qm rfl<|A0 (P6 rfl rfl) rfl<|es (ra7 rfl rfl rfl rfl rfl rfl rfl)<|N6 rfl hc19<|C9<|r0<|A0 (G6 rfl rfl) rfl<|qm rfl<|en (ra4 rfl rfl rfl rfl) ?_
          cases hs14
          exact lnT () rfl (su4 rfl rfl rfl rfl)
      ·refine K4 ?_
       obtain rfl:=os hs14
       exact lx rfl px (su1 rfl)
     ·rcases o26 with vo26_0 | vo26_1
      ·rintro e s' H' - ⟨rfl,hret⟩
       cases h
       exact hret
      ·rintro e s' H' - ⟨rfl,rfl,rfl⟩
       refine C6<|C4<|s0<|oB h fun x27 hx27 h=>A0 (C3 rfl) rfl<|A0 (B7 rfl rfl rfl) rfl<|A0 (I1 (rows:=List.map cI [a0.Purse]) rfl rfl (E0 (fun _=>rfl) _)) rfl<|B8 (rs:=[.b x27]) rfl rfl (A2 rfl (A2 rfl (A2 rfl B5))) ((E3 hx27).frz)<|qm rfl<|es (ra2 rfl rfl)<|wi h rfl (fun hc28 h=>?_) fun hc28 h=>?_
       ·refine s0<|qm rfl<|qm rfl<|qm rfl<|es (ra3 rfl rfl rfl)<|C7 ?_
        obtain rfl:=os h
        exact retq trivial (A9 rfl (A9 rfl (A9 rfl C0))) (A5 rfl (A5 rfl (A5 rfl B9))) (A3 A4 (A3 A4 (A3 A4 B1)))
       ·refine s0<|A0 (C3 rfl) rfl<|A0 (B7 rfl rfl rfl) rfl<|A0 (I6 (f:=D7) rfl) rfl<|A0 (A4m rfl rfl) rfl<|qm rfl<|es (ra2 rfl rfl)<|wi h rfl (fun hc29 h=>?_) fun hc29 h=>?_
        ·refine s0<|qm rfl<|qm rfl<|qm rfl<|es (ra3 rfl rfl rfl)<|C7 ?_
         obtain rfl:=os h
         exact retq trivial (A9 rfl (A9 rfl (A9 rfl C0))) (A5 rfl (A5 rfl (A5 rfl B9))) (A3 A4 (A3 A4 (A3 A4 B1)))
        ·refine C9<|C6<|s0<|A0 (C3 rfl) rfl<|A0 (B7 rfl rfl rfl) rfl<|A0 (I6 (f:=D7) rfl) rfl<|qm rfl<|es (ra3 rfl rfl rfl)<|C4<|oB h fun o39 ho39 h=>wl (fun s30=>[(92,(.seq 2 (List.map D7 a0.Incomes))),(93,(.i (List.length a0.Incomes:Int))),(94,.i s30)]) (fun (q31:Unit) s30=>[(.cells (B6 a0))]) 1 (fun r e s' H'=>(match r with | (.inl v)=>e = .ret∧RetQ H [.tmp 2,.tmp 3,.tmp 4] [.i v.1,.i v.2.1,.i v.2.2] e s' H' | (.inr v)=>PX 6 [] (H++[(.cells (B6 a0))]) e s' H':Prop)) () ho39 rfl rfl (fun _ _=>rfl) (fun _=>rfl) rfl (fun s30=>(bdc M0 (bdc A4 (bdc A4 bdn)))) (fun q31 s30 ys30 hs30=>?_) ?_
         ·unfold A6o at hs30
          refine s0<|A0 (L5 rfl rfl) rfl<|es (ra4 rfl rfl rfl rfl)<|C6<|wi hs30 rfl (fun hc32 hs30=>?_) fun hc32 hs30=>?_
          ·refine C9<|C6<|C4<|sg 1 rfl<|oB hs30 fun x33 hx33 hs30=>qm rfl<|A0 (J0 (f:=D7) rfl rfl hx33) rfl<|A0 (H8 rfl rfl) rfl<|A0 G8 rfl<|qm rfl<|M4 (E4 (ds:=(D7 x33)) rfl rfl rfl rfl (D9 rfl) rfl) rfl<|es (ra5 rfl rfl rfl rfl rfl)<|s0<|oB hs30 fun x34 hx34 hs30=>oB hs30 fun x37 hx37 hs30=>A0 (C3 rfl) rfl<|A0 (B7 rfl rfl rfl) rfl<|A0 (I1 (rows:=List.map cI [x33.Day]) rfl rfl (E0 (fun _=>rfl) _)) rfl<|B8 (rs:=[.b x34]) rfl rfl (A2 rfl (A2 rfl (A2 rfl B5))) ((E3 hx34).frz)<|qm rfl<|gp 5 108 (.b x37) 103 rfl rfl (fun hg35=>?_) (fun hg35=>?_) ?_
           ·obtain rfl:=os (bt hx37 hg35)
            exact nF rfl hg35 rfl<|nF rfl hg35 rfl<|nF rfl hg35 rfl<|K6 (F4 rfl (by rw [hg35]; rfl)) rfl<|A0 (D1 rfl hg35 rfl) rfl<|ge 5 rfl rfl rfl
           ·refine oB (bf hx37 hg35) fun x36 hx36 hx37=>?_
            obtain rfl:=os hx37
            exact gF rfl hg35<|A0 (C3 rfl) rfl<|gF rfl hg35<|A0 (B7 rfl rfl rfl) rfl<|gF rfl hg35<|A0 (I1 (rows:=List.map cI [x33.Pence]) rfl rfl (E0 (fun _=>rfl) _)) rfl<|gF rfl hg35<|B8 (rs:=[.b x36]) rfl rfl (A2 rfl (A2 rfl (A2 rfl B5))) ((E3 hx36).frz)<|A0 (D0 rfl hg35 rfl) rfl<|ge 5 rfl rfl rfl
           refine es (ra5 rfl rfl rfl rfl rfl)<|wi hs30 rfl (fun hc38 hs30=>?_) fun hc38 hs30=>?_
           ·refine s0<|qm rfl<|qm rfl<|qm rfl<|qm rfl<|es (ra3 rfl rfl rfl)<|C7 ?_
            obtain rfl:=os hs30
            exact lx rfl (And.intro rfl (retq trivial (A9 rfl (A9 rfl (A9 rfl C0))) (A5 rfl (A5 rfl (A5 rfl B9))) (A3 A4 (A3 A4 (A3 A4 B1))))) (Sub.refl _)
           ·refine C9<|r0<|A0 (G6 rfl rfl) rfl<|qm rfl<|en (ra3 rfl rfl rfl) ?_
            cases hs30
            exact lnT () rfl (su3 rfl rfl rfl)
          ·refine K4 ?_
           obtain rfl:=os hs30
           exact lx rfl px (.nil _)
         ·rcases o39 with vo39_0 | vo39_1
          ·rintro e s' H' - ⟨rfl,hret⟩
           cases h
           exact hret
          ·rintro e s' H' - ⟨rfl,rfl,rfl⟩
           refine s0<|qm rfl<|qm rfl<|qm rfl<|es (ra3 rfl rfl rfl)<|C7 ?_
           obtain rfl:=os h
           exact retq trivial (A9 rfl (A9 rfl (A9 rfl C0))) (A5 rfl (A5 rfl (A5 rfl B9))) (A3 A4 (A3 A4 (A3 A4 B1)))
end Pw
end
section
set_option maxRecDepth 100000
namespace Pw
open Go Am Go.Proofs.Ytjpjdglddmhplaa.Cd
def B16 (t:PaShow) (s:List Int × Int):Option ((List Int × Int) ⊕ List Int) :=
 if (decide (s.2 < (List.length t.Incomes:Int))) = true then
  (idx t.Incomes s.2).bind fun x=>(app 8 s.1 [x.Day]).bind fun l=>some (.inl (l,w64 (s.2 + 1)))
 else some (.inr s.1)
def A0l (t:PaShow):Option (Int × List Int) :=
 (A37 t).bind fun x =>
 if (x.2.2 != 0) = true then some (x.2.2,[])
 else (loop (B16 t) ([0],0)).bind fun l=>(B5n l).bind fun l=>(A7r l).bind fun y=>some (0,y.2)
theorem A0m {c:Sc} {H:A1} {t:PaShow} {x:Int × List Int} (h:A0l t = some x) (hx:(x.1 == 0) = false) :
  H6 tab c H (.fn (.func 23) [] []) [.agg (B6 t)] [.lit (.pointer none),.i x.1] H:= by
 unfold A0l at h
 refine oB h fun y hy h=>?_
 refine V8 (aq:=[.agg (B6 t)]) rfl rfl rfl (Q9 ?_)
 refine sg 0 rfl<|A0 (F9 (cs:=B6 t) rfl rfl rfl) rfl<|qm rfl<|qm rfl<|es (ra1 rfl)<|C6<|s0<|A0 (E5 rfl rfl rfl) rfl<|B8 (rs:=[.i y.1,.i y.2.1,.i y.2.2]) rfl rfl (A2 (D8 rfl) B5) ((A6i hy).frz)<|qm rfl<|A0 (A7 rfl rfl) rfl<|A0 (A7 rfl rfl) rfl<|A0 (A7 rfl rfl) rfl<|qm rfl<|qm rfl<|qm rfl<|es (ra2 rfl rfl)<|s0<|qm rfl<|A0 (P6 rfl rfl) rfl<|es (ra3 rfl rfl rfl)<|wi h rfl (fun hc h=>?_) fun hc h=>?_
 ·obtain rfl:=os h
  refine s0<|qm rfl<|qm rfl<|qm rfl<|es (ra2 rfl rfl)<|C7 ?_
  refine ⟨trivial,_,_,A9 rfl (A9 rfl C0),A5 rfl (A5 rfl B9),A3 A4 (A3 A4 B1),?_⟩
  exact List.take_left
 ·refine oB h fun l hl h=>oB h fun l2 hl2 h=>oB h fun z hz h=>?_
  cases h
  cases hx
theorem C1t {c:Sc} {H:A1} {t:PaShow} {x:Int × List Int} (h:A0l t = some x) (hx:(x.1 == 0) = true) {y:Int × Int × Int} {l l2:List Int} {z:Bool × List Int} (hy:A37 t = some y) (hl:loop (B16 t) ([0],0) = some l) (hl2:B5n l = some l2) (hz:A7r l2 = some z) :
  H6 tab c H (.fn (.func 23) [] []) [.agg (B6 t)] [.ptr (H.length + 2) 0,.i 0] (H++[.cells (B6 t),bif z.1 then .dead else .arr 1 true (l2.map cI),.cells (A0j t x.2)]):= by
 unfold A0l at h
 rw [hy,Option.bind_some] at h
 split at h
 ·next hc=>cases h; rw [show y.2.2 = 0 by simpa using hx] at hc; cases hc
 next hc =>
 rw [hl,Option.bind_some,hl2,Option.bind_some,hz,Option.bind_some] at h
 obtain rfl:=os h
 have hsort:∀c' d,H6 tab c' (H++[.cells (B6 t),ar1 l,.cells (A2g t d)]) (.fn (.func 48) [] []) [.asl (H.length + 1) l.length] [] (H++[.cells (B6 t),ar1 l2,.cells (A2g t d)]):=fun c' d=>by
  have:=C61 (c:=c') (A:=H++[.cells (B6 t)]) (B:=[.cells (A2g t d)]) hl2
  simpa using this
 have hcomp:∀c' d,H6 tab c' (H++[.cells (B6 t),ar1 l2,.cells (A2g t d)]) (.fn (.func 49) [] []) [.asl (H.length + 1) l2.length] (bif z.1 then [.fresh 1 (z.2.map cI)] else [.seq 1 (z.2.map cI)]) (H++[.cells (B6 t),bif z.1 then .dead else .arr 1 true (l2.map cI),.cells (A2g t d)]):=fun c' d=>by
  have:=B86 (c:=c') (A:=H++[.cells (B6 t)]) (X:=.cells (A2g t d)) hz
  simpa using this
 have hlen2:=C2r hl2
 refine B68 (aq:=[.agg (B6 t)]) rfl rfl rfl (Q9 ?_)
 refine sg 0 rfl<|A0 (F9 (cs:=B6 t) rfl rfl rfl) rfl<|qm rfl<|qm rfl<|es (ra1 rfl)<|C6<|s0<|A0 (E5 rfl rfl rfl) rfl<|B8 (rs:=[.i y.1,.i y.2.1,.i y.2.2]) rfl rfl (A2 (D8 rfl) B5) ((A6i hy).frz)<|qm rfl<|A0 (A7 rfl rfl) rfl<|A0 (A7 rfl rfl) rfl<|A0 (A7 rfl rfl) rfl<|qm rfl<|qm rfl<|qm rfl<|es (ra2 rfl rfl)<|s0<|qm rfl<|A0 (P6 rfl rfl) rfl<|es (ra3 rfl rfl rfl)<|N6 rfl (by simpa using hc)<|C9<|sg 1 rfl<|A0 (E5 rfl rfl rfl) rfl<|A0 (C6h (rows:=List.map cI [0]) rfl rfl (E0 (fun _=>rfl) _)) rfl<|A0 (O1 (cs:=(shI t [.lit .nilFunc,.lit .nilFunc,.lit .nilFunc,.lit .nilFunc,.lit .nilFunc,.lit .nilFunc,.lit .nilFunc,.lit .nilFunc,.lit .nilFunc] (.asl (H.length + 1) 1))) rfl rfl) rfl<|A0 (F9 (cs:=(shI t [.lit .nilFunc,.lit .nilFunc,.lit .nilFunc,.lit .nilFunc,.lit .nilFunc,.lit .nilFunc,.lit .nilFunc,.lit .nilFunc,.lit .nilFunc] (.asl (H.length + 1) 1))) rfl rfl rfl) rfl<|qm rfl<|es (ra2 rfl rfl) ?_
 refine s0<|qm rfl<|A0 (O1 (cs:=[.fn (.func 41) [] [],.fn (.func 42) [] [],.fn (.func 43) [] []]) rfl rfl) rfl<|A0 (J8 rfl rfl) rfl<|A0 (C3 rfl) rfl<|A0 (A51 rfl rfl (by decide)) rfl<|M4 (E4 (ds:=(shI t [.fn (.func 41) [] [],.fn (.func 42) [] [],.fn (.func 43) [] [],.lit .nilFunc,.lit .nilFunc,.lit .nilFunc,.lit .nilFunc,.lit .nilFunc,.lit .nilFunc] (.asl (H.length + 1) 1))) rfl rfl rfl rfl (W7 (Nat.le_add_right _ _)) rfl) rfl<|es (ra2 rfl rfl) ?_
 refine s0<|qm rfl<|A0 (O1 (cs:=[.fn (.func 25) [] [],.fn (.func 44) [] [],.fn (.func 45) [] []]) rfl rfl) rfl<|A0 (J8 rfl rfl) rfl<|A0 (C3 rfl) rfl<|A0 (A51 rfl rfl (by decide)) rfl<|M4 (E4 (ds:=(shI t [.fn (.func 41) [] [],.fn (.func 42) [] [],.fn (.func 43) [] [],.fn (.func 25) [] [],.fn (.func 44) [] [],.fn (.func 45) [] [],.lit .nilFunc,.lit .nilFunc,.lit .nilFunc] (.asl (H.length + 1) 1))) rfl rfl rfl rfl (W7 (Nat.le_add_right _ _)) rfl) rfl<|es (ra2 rfl rfl) ?_
 refine s0<|qm rfl<|A0 (O1 (cs:=[.fn (.func 26) [] [],.fn (.func 46) [] [],.fn (.func 47) [] []]) rfl rfl) rfl<|A0 (J8 rfl rfl) rfl<|A0 (C3 rfl) rfl<|A0 (A51 rfl rfl (by decide)) rfl<|M4 (E4 (ds:=(shI t [.fn (.func 41) [] [],.fn (.func 42) [] [],.fn (.func 43) [] [],.fn (.func 25) [] [],.fn (.func 44) [] [],.fn (.func 45) [] [],.fn (.func 26) [] [],.fn (.func 46) [] [],.fn (.func 47) [] []] (.asl (H.length + 1) 1))) rfl rfl rfl rfl (W7 (Nat.le_add_right _ _)) rfl) rfl<|es (ra2 rfl rfl) ?_
 refine C6<|s0<|A0 (C3 rfl) rfl<|A0 (B7 rfl rfl rfl) rfl<|A0 (I6 (f:=D7) rfl) rfl<|qm rfl<|es (ra4 rfl rfl rfl rfl)<|C4<|wl (fun s=>[(7,.ptr (H.length + 2) 0),(39,.seq 2 (List.map D7 t.Incomes)),(40,.i t.Incomes.length),(41,.i s.2)]) (fun (_:Unit) s=>[.cells (B6 t),ar1 s.1,.cells (A2g t (.asl (H.length + 1) s.1.length))]) 3 (fun r e s' H'=>PX 0 [(7,.ptr (H.length + 2) 0)] (H++[.cells (B6 t),ar1 r,.cells (A2g t (.asl (H.length + 1) r.length))]) e s' H') () hl rfl rfl (fun _ _=>rfl) (fun _=>rfl) rfl (fun _=>bdc (R0 rfl) (bdc M0 (bdc A4 (bdc A4 bdn)))) (fun _ s o hs=>?_) ?_
 ·unfold B16 at hs
  refine s0<|A0 (L5 rfl rfl) rfl<|es (ra5 rfl rfl rfl rfl rfl)<|C6<|wi hs rfl (fun hc hs=>?_) fun hc hs=>?_
  ·refine oB hs fun x hx hs=>oB hs fun l' hl' hs=>?_
   refine C9<|C6<|C4<|sg 3 rfl<|A0 (J0 (f:=D7) rfl rfl hx) rfl<|A0 (B72 (ds:=D7 x) rfl rfl rfl) rfl<|A0 G8 rfl<|M4 (E4 (ds:=D7 x) rfl rfl rfl rfl (W7 (Nat.le_refl _)) rfl) rfl<|es (ra5 rfl rfl rfl rfl rfl)<|r0<|qm rfl<|A0 (J8 rfl rfl) rfl<|A0 (C3 rfl) rfl<|A0 (B7 (x:=.asl (H.length + 1) s.1.length) rfl rfl rfl) rfl<|A0 (C3 rfl) rfl<|A0 (B7 rfl rfl rfl) rfl<|A0 (I1 (rows:=List.map cI [x.Day]) rfl rfl (E0 (fun _=>rfl) _)) rfl<|N2 (A9l (f:=cI) rfl rfl rfl rfl A91 (fun _=>rfl) hl') rfl<|qm rfl<|A0 (J8 rfl rfl) rfl<|A0 (C3 rfl) rfl<|M4 (E4 (ds:=A2g t (.asl (H.length + 1) l'.length)) rfl rfl rfl rfl (C4n (Nat.lt_succ_self _)) rfl) rfl<|en (ra4 rfl rfl rfl rfl)<|r0<|A0 (G6 rfl rfl) rfl<|qm rfl<|en (ra4 rfl rfl rfl rfl) ?_
   cases hs
   exact lnT () rfl (su4 rfl rfl rfl rfl)
  ·refine K4 ?_
   obtain rfl:=os hs
   exact lx rfl px (su1 rfl)
 ·rintro e s' H' - ⟨rfl,rfl,rfl⟩
  refine s0<|qm rfl<|A0 (J8 rfl rfl) rfl<|A0 (C3 rfl) rfl<|A0 (B7 (x:=.asl (H.length + 1) l.length) rfl rfl rfl) rfl<|N2 (Z5 rfl rfl (hsort _ _) rfl) rfl<|es (ra1 rfl) ?_
  have hrs:((bif z.1 then [AV.fresh 1 (z.2.map cI)] else [.seq 1 (z.2.map cI)]):List AV).map fzA = [.seq 1 (z.2.map cI)]:= by cases z.1 <;> rfl
  rw [← hlen2]
  refine s0<|qm rfl<|qm rfl<|A0 (J8 rfl rfl) rfl<|A0 (C3 rfl) rfl<|A0 (B7 (x:=.asl (H.length + 1) l2.length) rfl rfl rfl) rfl<|N2 (Z5 rfl rfl (hcomp _ _) hrs) rfl<|A0 (J8 rfl rfl) rfl<|A0 (C3 rfl) rfl<|M4 (E4 (ds:=A0j t z.2) rfl rfl rfl rfl (D9 rfl) rfl) rfl<|es (ra1 rfl)<|s0<|qm rfl<|qm rfl<|qm rfl<|es (ra2 rfl rfl)<|C7 ?_
  refine ⟨trivial,_,A9 rfl (A9 rfl C0),A5 rfl (A5 rfl B9),Q3 ?_⟩
  have:=A2l (N:=H.length) (B:=0) (j:=2) (o:=0) rfl
  exact this
end Pw
namespace Pw
open Go Am Go.Proofs.Ytjpjdglddmhplaa.Cd
theorem nef {a:Int} (h:¬ (a == 0) = true):(a != 0) = true:= by simpa [bne] using h
theorem Z2 {t:PaShow} {x:Int × List Int} (h:A0l t = some x) (hx:(x.1 == 0) = true):∃X,New tab (.fn (.func 23) [] []) [.agg (B6 t)] 2 [.cells (B6 t),X,.cells (A0j t x.2)]:= by
 have h0:=h
 unfold A0l at h0
 refine oB h0 fun y hy h0=>?_
 split at h0
 ·next hc=>cases h0; rw [show y.2.2 = 0 by simpa using hx] at hc; cases hc
 refine oB h0 fun l hl h0=>oB h0 fun l2 hl2 h0=>oB h0 fun z hz h0=>?_
 refine ⟨bif z.1 then .dead else .arr 1 true (l2.map cI),fun c H N hN=>?_⟩
 subst hN
 exact C1t h hx hy hl hl2 hz
end Pw
end
section
set_option maxRecDepth 100000
set_option maxHeartbeats 0
namespace Pw
open Go Am Go.Proofs.Ytjpjdglddmhplaa.Cd
def A3i (a0:PaShow):Option ((List PaUse) × Int × Int × Int) :=
 (A0l a0).bind fun x1 =>
 if (x1.1 == 0) = true then
  (B65 (B5h a0 x1.2) A5c).bind fun x4 =>
  some (x4.1.plan_,x4.1.without_,x4.1.cost_,0)
 else
  some (([]:List PaUse),0,0,x1.1)
theorem A35 {c:Sc} {H:A1} (hscv:O8 c H = true) {a0:PaShow} {r:((List PaUse) × Int × Int × Int)} (h:A3i a0 = some r) :
  F2 tab c H (.fn (.func 13) [] []) [(.agg (B6 a0))] [(.seq 3 (List.map A8 r.1)),.i r.2.1,.i r.2.2.1,.i r.2.2.2]:= by
 unfold A3i at h
 refine cE rfl rfl<|sg 0 rfl<|A0 (F9 (cs:=B6 a0) rfl rfl rfl) rfl<|qm rfl<|qm rfl<|qm rfl<|qm rfl<|es (ra1 rfl)<|s0<|oB h fun x1 hx1 h=>A0 (E5 rfl rfl rfl) rfl ?_
 by_cases hc2:(x1.1 == 0) = true
 ·rw [if_pos hc2] at h
  obtain ⟨X3,hX3⟩:=Z2 hx1 hc2
  refine N2 (A02 hX3 rfl rfl (A2 (D8 rfl) B5) rfl) rfl<|qm rfl<|A0 (A7 rfl rfl) rfl<|A0 (A7 rfl rfl) rfl<|qm rfl<|qm rfl<|es (ra2 rfl rfl)<|C6<|s0<|qm rfl<|A0 (Q5 (v:=(.b false)) rfl rfl rfl) rfl<|es (ra3 rfl rfl rfl)<|N6 rfl rfl<|C9<|sg 4 rfl<|qm rfl<|A1y (as2:=[(.ptr (H.length + 3) 0)]) (H1:=(H++[(.cells (B6 a0)),(.cells (B6 a0)),X3,(.cells [(.seq 8 (List.map C1 a0.Gowns)),(.seq 4 (List.map B3 a0.Figures)),.i a0.Purse,(.seq 2 (List.map D7 a0.Incomes)),(.fn (.func 41) [] []),(.fn (.func 42) [] []),(.fn (.func 43) [] []),(.fn (.func 25) [] []),(.fn (.func 44) [] []),(.fn (.func 45) [] []),(.fn (.func 26) [] []),(.fn (.func 46) [] []),(.fn (.func 47) [] []),(.seq 1 (List.map cI x1.2))]),.dead])) rfl rfl (A2 rfl B5) rfl rfl rfl (A5z rfl)<|sg 5 rfl<|A0 (F9 (cs:=[(.ptr (H.length + 3) 0)]) rfl rfl rfl) rfl<|qm rfl<|es (ra1 rfl)<|s0<|A0 (A0q rfl rfl) rfl<|qm rfl<|es (ra1 rfl)<|C7<|InlQ.mk trivial ⟨_,_,_,[(.fn (.func 55) [] [(.ptr (H.length + 5) 0)])],_,(A9 rfl C0),(A5 rfl B9),(A5x (Q3 (A82 (Q3 (A2l rfl)))) (A5w rfl A9b)),?_⟩
  refine oB h fun x4 hx4 h=>B8 (rs:=[(.agg (B2 x4.1)),.b x4.2]) rfl rfl (A2 rfl (A2 rfl B5)) (B5y (B9x (t:=a0) (days:=x1.2) (bS:=H.length + 5) (b:=H.length + 3)) (fun h=>(B21 h).frz) (And.intro (D5 rfl) (D5 rfl)) (B3k hscv) hx4)<|qm rfl<|A0 (A7 rfl rfl) rfl<|A0 (A7 rfl rfl) rfl<|A0 G8 rfl<|M4 (E4 (ds:=(B2 x4.1)) rfl rfl rfl rfl (D9 rfl) rfl) rfl<|qm rfl<|es (ra1 rfl)<|s0<|A0 (C3 rfl) rfl<|A0 (B7 rfl rfl rfl) rfl<|A0 (C3 rfl) rfl<|A0 (B7 rfl rfl rfl) rfl<|A0 (C3 rfl) rfl<|A0 (B7 rfl rfl rfl) rfl<|qm rfl<|qm rfl<|qm rfl<|qm rfl<|es (ra4 rfl rfl rfl rfl)<|C7 ?_
  obtain rfl:=os h
  exact retq trivial (A9 rfl (A9 rfl (A9 rfl (A9 rfl C0)))) (A5 rfl (A5 rfl (A5 rfl (A5 rfl B9)))) (A3 M0 (A3 A4 (A3 A4 (A3 A4 B1))))
 ·rw [if_neg hc2] at h
  refine N2 (N4 (rs:=[.lit (.pointer none),.i x1.1]) rfl rfl (A2 (D8 rfl) B5) (A0m hx1 (by simpa using hc2)) rfl) rfl<|qm rfl<|A0 (A7 rfl rfl) rfl<|A0 (A7 rfl rfl) rfl<|qm rfl<|qm rfl<|es (ra2 rfl rfl)<|C6<|s0<|qm rfl<|A0 (P6 rfl rfl) rfl<|es (ra3 rfl rfl rfl)<|M3 rfl (nef hc2)<|s0<|qm rfl<|qm rfl<|qm rfl<|qm rfl<|qm rfl<|es (ra4 rfl rfl rfl rfl)<|C7 ?_
  obtain rfl:=os h
  exact retq trivial (A9 rfl (A9 rfl (A9 rfl (A9 rfl C0)))) (A5 rfl (A5 rfl (A5 rfl (A5 rfl B9)))) (A3 M0 (A3 A4 (A3 A4 (A3 A4 B1))))
def A06 (a0:PaShow) (a1:Int) (a2:Int):Option (Int × Int) :=
 (A0l a0).bind fun x1 =>
 if (x1.1 == 0) = true then
  (F3 0 (w64 ((List.length a0.Gowns:Int) - 1)) [a1]).bind fun x4 =>
  (if x4 = true then
  some true
  else
  (F3 0 (w64 ((List.length a0.Figures:Int) - 1)) [a2]).bind fun x6 =>
  some x6).bind fun x7 =>
  if x7 = true then
  some (0,4)
  else
  (idx a0.Gowns a1).bind fun x9 =>
  if (!x9.Pawn) = true then
   some (0,2)
  else
   (idx a0.Gowns a1).bind fun x11 =>
   (idx a0.Figures a2).bind fun x12 =>
   (A1r x11 x12 0).bind fun x13 =>
   if (!x13) = true then
   some (0,9)
   else
   (idx a0.Gowns a1).bind fun x15 =>
   (idx a0.Figures a2).bind fun x16 =>
   (A39 x15 x16 0).bind fun x17 =>
   some (x17,0)
 else
  some (0,x1.1)
theorem A17 {c:Sc} {H:A1} {a0:PaShow} {a1:Int} {a2:Int} {r:(Int × Int)} (h:A06 a0 a1 a2 = some r) :
  F2 tab c H (.fn (.func 9) [] []) [(.agg (B6 a0)),.i a1,.i a2] [.i r.1,.i r.2]:= by
 unfold A06 at h
 refine cE rfl rfl<|sg 0 rfl<|A0 (F9 (cs:=B6 a0) rfl rfl rfl) rfl<|qm rfl<|qm rfl<|es (ra3 rfl rfl rfl)<|s0<|oB h fun x1 hx1 h=>A0 (E5 rfl rfl rfl) rfl ?_
 by_cases hc2:(x1.1 == 0) = true
 ·rw [if_pos hc2] at h
  obtain ⟨X3,hX3⟩:=Z2 hx1 hc2
  refine N2 (A02 hX3 rfl rfl (A2 (D8 rfl) B5) rfl) rfl<|qm rfl<|A0 (A7 rfl rfl) rfl<|A0 (A7 rfl rfl) rfl<|qm rfl<|qm rfl<|es (ra5 rfl rfl rfl rfl rfl)<|C6<|C4<|s0<|qm rfl<|A0 (Q5 (v:=(.b false)) rfl rfl rfl) rfl<|qm rfl<|es (ra6 rfl rfl rfl rfl rfl rfl)<|N6 rfl rfl<|s0<|oB h fun x4 hx4 h=>oB h fun x7 hx7 h=>A0 (C3 rfl) rfl<|A0 (B7 rfl rfl rfl) rfl<|A0 (I6 (f:=C1) rfl) rfl<|A0 (Z0 rfl rfl) rfl<|qm rfl<|A0 (I1 (rows:=List.map cI [a1]) rfl rfl (E0 (fun _=>rfl) _)) rfl<|B8 (rs:=[.b x4]) rfl rfl (A2 rfl (A2 rfl (A2 rfl B5))) ((E3 hx4).frz)<|qm rfl<|gp 8 35 (.b x7) 27 rfl rfl (fun hg5=>?_) (fun hg5=>?_) ?_
  ·obtain rfl:=os (bt hx7 hg5)
   exact nF rfl hg5 rfl<|nF rfl hg5 rfl<|nF rfl hg5 rfl<|nF rfl hg5 rfl<|nF rfl hg5 rfl<|nF rfl hg5 rfl<|K6 (F4 rfl (by rw [hg5]; rfl)) rfl<|A0 (D1 rfl hg5 rfl) rfl<|ge 8 rfl rfl rfl
  ·refine oB (bf hx7 hg5) fun x6 hx6 hx7=>?_
   obtain rfl:=os hx7
   exact gF rfl hg5<|A0 (C3 rfl) rfl<|gF rfl hg5<|A0 (B7 rfl rfl rfl) rfl<|gF rfl hg5<|A0 (I6 (f:=B3) rfl) rfl<|gF rfl hg5<|A0 (Z0 rfl rfl) rfl<|gF rfl hg5<|qm rfl<|gF rfl hg5<|A0 (I1 (rows:=List.map cI [a2]) rfl rfl (E0 (fun _=>rfl) _)) rfl<|gF rfl hg5<|B8 (rs:=[.b x6]) rfl rfl (A2 rfl (A2 rfl (A2 rfl B5))) ((E3 hx6).frz)<|A0 (D0 rfl hg5 rfl) rfl<|ge 8 rfl rfl rfl
  refine qm rfl<|es (ra5 rfl rfl rfl rfl rfl)<|wi h rfl (fun hc8 h=>?_) fun hc8 h=>?_
  ·refine s0<|qm rfl<|qm rfl<|es (ra2 rfl rfl)<|C7 ?_
   obtain rfl:=os h
   exact retq trivial (A9 rfl (A9 rfl C0)) (A5 rfl (A5 rfl B9)) (A3 A4 (A3 A4 B1))
  ·refine s0<|oB h fun x9 hx9 h=>A0 (C3 rfl) rfl<|A0 (B7 rfl rfl rfl) rfl<|qm rfl<|A0 (J0 (f:=C1) rfl rfl hx9) rfl<|A0 (C09 (ds:=(List.drop 2 (C1 x9))) rfl rfl) rfl<|A0 (A1j rfl rfl) rfl<|A0 (A5m rfl) rfl<|qm rfl<|es (ra5 rfl rfl rfl rfl rfl)<|wi h rfl (fun hc10 h=>?_) fun hc10 h=>?_
   ·refine s0<|qm rfl<|qm rfl<|es (ra2 rfl rfl)<|C7 ?_
    obtain rfl:=os h
    exact retq trivial (A9 rfl (A9 rfl C0)) (A5 rfl (A5 rfl B9)) (A3 A4 (A3 A4 B1))
   ·refine s0<|oB h fun x11 hx11 h=>oB h fun x12 hx12 h=>oB h fun x13 hx13 h=>qm rfl<|A0 (J8 rfl rfl) rfl<|A0 (C3 rfl) rfl<|A0 (A51 rfl rfl (by decide)) rfl<|A0 (C3 rfl) rfl<|A0 (B7 (x:=(.fn (.func 47) [] [])) rfl rfl rfl) rfl<|A0 (C3 rfl) rfl<|A0 (B7 rfl rfl rfl) rfl<|qm rfl<|A0 (J0 (f:=C1) rfl rfl hx11) rfl<|A0 (H8 rfl rfl) rfl<|A0 (C3 rfl) rfl<|A0 (B7 rfl rfl rfl) rfl<|qm rfl<|A0 (J0 (f:=B3) rfl rfl hx12) rfl<|A0 (H8 rfl rfl) rfl<|B8 (rs:=[.b x13]) rfl rfl (A2 (D8 rfl) (A2 (D8 rfl) (A2 rfl B5))) ((A4p hx13).frz)<|A0 (A5m rfl) rfl<|qm rfl<|es (ra4 rfl rfl rfl rfl)<|wi h rfl (fun hc14 h=>?_) fun hc14 h=>?_
    ·refine s0<|qm rfl<|qm rfl<|es (ra2 rfl rfl)<|C7 ?_
     obtain rfl:=os h
     exact retq trivial (A9 rfl (A9 rfl C0)) (A5 rfl (A5 rfl B9)) (A3 A4 (A3 A4 B1))
    ·refine C9<|s0<|oB h fun x15 hx15 h=>oB h fun x16 hx16 h=>oB h fun x17 hx17 h=>A0 (C3 rfl) rfl<|A0 (B7 rfl rfl rfl) rfl<|qm rfl<|A0 (J0 (f:=C1) rfl rfl hx15) rfl<|A0 (H8 rfl rfl) rfl<|A0 (C3 rfl) rfl<|A0 (B7 rfl rfl rfl) rfl<|qm rfl<|A0 (J0 (f:=B3) rfl rfl hx16) rfl<|A0 (H8 rfl rfl) rfl<|B8 (rs:=[.i x17]) rfl rfl (A2 (D8 rfl) (A2 (D8 rfl) (A2 rfl B5))) ((A6k hx17).frz)<|qm rfl<|qm rfl<|es (ra2 rfl rfl)<|C7 ?_
     obtain rfl:=os h
     exact retq trivial (A9 rfl (A9 rfl C0)) (A5 rfl (A5 rfl B9)) (A3 A4 (A3 A4 B1))
 ·rw [if_neg hc2] at h
  refine N2 (N4 (rs:=[.lit (.pointer none),.i x1.1]) rfl rfl (A2 (D8 rfl) B5) (A0m hx1 (by simpa using hc2)) rfl) rfl<|qm rfl<|A0 (A7 rfl rfl) rfl<|A0 (A7 rfl rfl) rfl<|qm rfl<|qm rfl<|es (ra5 rfl rfl rfl rfl rfl)<|C6<|C4<|s0<|qm rfl<|A0 (P6 rfl rfl) rfl<|qm rfl<|es (ra6 rfl rfl rfl rfl rfl rfl)<|M3 rfl (nef hc2)<|s0<|qm rfl<|qm rfl<|qm rfl<|es (ra2 rfl rfl)<|C7 ?_
  obtain rfl:=os h
  exact retq trivial (A9 rfl (A9 rfl C0)) (A5 rfl (A5 rfl B9)) (A3 A4 (A3 A4 B1))
def V2 (a0:PaUse) (a1:Int):Option Bool :=
 some ((a0.Gown == a1) && (a0.How == 1))
theorem A48 {c:Sc} {H:A1} {a0:PaUse} {a1:Int} {b1:Nat} (hb1:hcells H b1 = some (cI a1)) {r:Bool} (h:V2 a0 a1 = some r) :
  F2 tab c H (.fn (.func 74) [] []) [(.agg (A8 a0)),.ptr b1 0] [.b r]:= by
 unfold V2 at h
 refine cE rfl rfl<|sg 0 rfl<|A0 (F9 (cs:=A8 a0) rfl rfl rfl) rfl<|qm rfl<|es (ra2 rfl rfl)<|s0<|A0 (C3 rfl) rfl<|A0 (B7 rfl rfl rfl) rfl<|A0 (E9 rfl hb1 rfl) rfl<|A0 (I3 rfl rfl) rfl<|qm rfl<|gp 4 12 (.b ((a0.Gown == a1) && (a0.How == 1))) 8 rfl rfl (fun hg1=>?_) (fun hg1=>?_) ?_
 ·exact gT rfl hg1<|A0 (C3 rfl) rfl<|gT rfl hg1<|A0 (B7 rfl rfl rfl) rfl<|gT rfl hg1<|A0 (I3 rfl rfl) rfl<|A0 (D1 rfl hg1 rfl) rfl<|ge 4 (by rw [hg1]; rfl) rfl rfl
 ·exact nT rfl hg1 rfl<|nT rfl hg1 rfl<|nT rfl hg1 rfl<|A0 (D0 rfl hg1 rfl) rfl<|ge 4 (by rw [hg1]; rfl) rfl rfl
 refine qm rfl<|es (ra1 rfl)<|C7 ?_
 obtain rfl:=os h
 exact retq trivial (A9 rfl C0) (A5 rfl B9) (A3 A4 B1)
def A1f (a0:pawn_show) (a1:(List PaUse)) (a2:Int):Option Bool :=
 (E7 a1 (fun (y:PaUse)=>V2 y a2)).bind fun x1 =>
 some x1
theorem A69 {c:Sc} {H:A1} {a0:pawn_show} {b0:Nat} (hb0:hcells H b0 = some [(.seq 8 (List.map C1 a0.PaShow.Gowns)),(.seq 4 (List.map B3 a0.PaShow.Figures)),.i a0.PaShow.Purse,(.seq 2 (List.map D7 a0.PaShow.Incomes)),(.fn (.func 41) [] []),(.fn (.func 42) [] []),(.fn (.func 43) [] []),(.fn (.func 25) [] []),(.fn (.func 44) [] []),(.fn (.func 45) [] []),(.fn (.func 26) [] []),(.fn (.func 46) [] []),(.fn (.func 47) [] []),(.seq 1 (List.map cI a0.days_))]) {a1:(List PaUse)} {a2:Int} {r:Bool} (h:A1f a0 a1 a2 = some r) :
  F2 tab c H (.fn (.func 57) [] []) [.ptr b0 0,(.seq 3 (List.map A8 a1)),.i a2] [.b r]:= by
 unfold A1f at h
 refine cE rfl rfl<|sg 0 rfl<|A0 (F9 (cs:=cI a2) rfl rfl rfl) rfl<|qm rfl<|es (ra2 rfl rfl)<|s0<|oB h fun x1 hx1 h=>qm rfl<|A0 (A0q rfl rfl) rfl<|B8 (rs:=[.b x1]) rfl rfl (A2 rfl (A2 rfl B5)) ((T3 (show Impl _ _ 74 [] [(.ptr (H.length + 0) 0)] (fun (y:PaUse)=>V2 y a2) (fun (y:PaUse)=>[(.agg (A8 y))]) (fun (y:Bool)=>[.b y]) from ⟨⟨B1,(by rw [List.length_append]; exact (A3 (R0 rfl) B1))⟩,fun H' hle hag c y r hr=>(A0k (A48 (hag _ _ (D5 rfl)) hr)).frz⟩) hx1).frz)<|qm rfl<|es (ra1 rfl)<|C7 ?_
 obtain rfl:=os h
 exact retq trivial (A9 rfl C0) (A5 rfl B9) (A3 A4 B1)
def A7f (t:PaShow) (days:List Int) (plan:List PaUse) (i:Int):Option (Int ⊕ (Int ⊕ Unit)) :=
 if (decide (i < (List.length plan:Int))) = true then
  (idx plan i).bind fun u=>(X8 (shw t days) i u).bind fun e =>
  (if (e != 4) = true then (A4f plan i).bind fun z=>some z else some false).bind fun g =>
  (if g = true then some 5 else some e).bind fun e' =>
  if (e' != 0) = true then some (.inr (.inl e')) else some (.inl (w64 (i + 1)))
 else some (.inr (.inr ()))
def A2c (t:PaShow) (plan:List PaUse):Option (Int × List Int) :=
 (A0l t).bind fun x =>
 if (x.1 == 0) = true then
  if ((List.length plan:Int) != (List.length t.Figures:Int)) = true then some (3,[])
  else (loop (A7f t x.2 plan) 0).bind fun o=>match o with
   | .inl e=>some (e,[])
   | .inr _=>some (0,x.2)
 else some (x.1,[])
def plB (t:PaShow) (X:AO) (days:List Int):List AO:=[.cells (B6 t),.cells (B6 t),X,.cells (A0j t days)]
def PlQ (H:A1) (t:PaShow) (X:AO) (x:Int × List Int) (e:Ex) (s:A6) (H1:A1):Prop :=
 e = .ret∧sget s 5 = some (.i x.1)∧(((x.1 != 0) = true∧sget s 4 = some (.lit (.pointer none))∧∃ L,H1 = H++L)∨(x.1 = 0∧sget s 4 = some (.ptr (H.length + 3) 0)∧H1 = H++plB t X x.2))
theorem A8h {c:Sc} {H:A1} {t:PaShow} {plan:List PaUse} {x y:Int × List Int} {X:AO} (hX:New tab (.fn (.func 23) [] []) [.agg (B6 t)] 2 [.cells (B6 t),X,.cells (A0j t y.2)])
  (h:(if ((List.length plan:Int) != (List.length t.Figures:Int)) = true then some (3,[])
  else (loop (A7f t y.2 plan) 0).bind fun o=>match o with
   | .inl e=>some (e,[])
   | .inr _=>some (0,y.2)) = some x) :
  WP tab c28 [(0,.agg (B6 t)),(1,.seq 3 (plan.map A8))] (H++[]) ⟨H.length,c.cur :: c.outer⟩ (PlQ H t X x):= by
 refine sg 0 rfl<|A0 (F9 (cs:=B6 t) rfl rfl rfl) rfl<|qm rfl<|qm rfl<|es (ra2 rfl rfl)<|s0<|A0 (E5 rfl rfl rfl) rfl<|N2 (A02 hX rfl rfl (A2 (D8 rfl) B5) rfl) rfl<|qm rfl<|A0 (A7 rfl rfl) rfl<|A0 (A7 rfl rfl) rfl<|qm rfl<|qm rfl<|es (ra4 rfl rfl rfl rfl)<|C6<|C4<|s0<|qm rfl<|A0 (P6 rfl rfl) rfl<|qm rfl<|es (ra5 rfl rfl rfl rfl rfl)<|N6 rfl rfl<|s0<|qm rfl<|A0 (I6 (f:=A8) rfl) rfl<|A0 (C3 rfl) rfl<|A0 (B7 rfl rfl rfl) rfl<|A0 (I6 (f:=B3) rfl) rfl<|A0 (P6 rfl rfl) rfl<|qm rfl<|es (ra3 rfl rfl rfl)<|wi h rfl (fun hc h=>?_) fun hc h=>?_
 ·refine s0<|qm rfl<|qm rfl<|es (ra2 rfl rfl)<|C7 ?_
  obtain rfl:=os h
  exact ⟨rfl,rfl,.inl ⟨rfl,rfl,_,rfl⟩⟩
 ·refine oB h fun o ho h=>?_
  have hsl:SlV H (.seq 3 (plan.map A8)) plan:=.seq plan
  refine C9<|C6<|s0<|qm rfl<|A0 (I6 (f:=A8) rfl) rfl<|qm rfl<|es (ra5 rfl rfl rfl rfl rfl)<|C4<|wl (fun i=>[(1,.seq 3 (plan.map A8)),(6,.ptr (H.length + 3) 0),(26,.seq 3 (plan.map A8)),(27,.i plan.length),(28,.i i)]) (fun (_:Unit) _=>plB t X y.2) 4 (fun r e s' H'=>match r with | .inl v=>e = .ret∧s' = [(4,.lit (.pointer none)),(5,.i v)]∧(v != 0) = true∧∃ L,H' = H++L | .inr _=>PX 1 [(6,.ptr (H.length + 3) 0)] (H++plB t X y.2) e s' H') () ho rfl rfl (fun _ _=>rfl) (fun _=>rfl) rfl (fun _=>bdc M0 (bdc (R0 rfl) (bdc M0 (bdc A4 (bdc A4 bdn))))) (fun _ i o hs=>?_) ?_
  ·unfold A7f at hs
   refine s0<|A0 (L5 rfl rfl) rfl<|es (ra6 rfl rfl rfl rfl rfl rfl)<|C6<|wi hs rfl (fun hc hs=>?_) fun hc hs=>?_
   ·refine oB hs fun u hu hs=>oB hs fun e he hs=>oB hs fun g hg hs=>oB hs fun e' he' hs=>?_
    refine C9<|C6<|C4<|sg 4 rfl<|qm rfl<|A0 (J0 (f:=A8) rfl rfl hu) rfl<|A0 (H8 rfl rfl) rfl<|A0 G8 rfl<|qm rfl<|M4 (E4 (ds:=A8 u) rfl rfl rfl rfl (D9 rfl) rfl) rfl<|es (ra7 rfl rfl rfl rfl rfl rfl rfl)<|s0<|qm rfl<|qm rfl<|A0 (E5 rfl rfl rfl) rfl<|B8 (rs:=[.i e]) rfl rfl (A2 rfl (A2 rfl (A2 (D8 rfl) B5))) ((A0r (a0:=shw t y.2) (D5 rfl) he).frz)<|qm rfl<|es (ra7 rfl rfl rfl rfl rfl rfl rfl)<|C6<|s0<|qm rfl<|A0 (P6 rfl rfl) rfl<|qm rfl<|gp 4 43 (.b g) 39 rfl rfl (fun hb=>?_) (fun hb=>?_) ?_
    ·refine oB (bt hg hb) fun z hz hg=>?_
     obtain rfl:=os hg
     exact gT rfl hb<|qm rfl<|gT rfl hb<|qm rfl<|gT rfl hb<|N2 (R3 (rs:=[.b z]) rfl rfl ((A49 hsl.app (fun _ _ _ _ hh=>by cases hh) rfl hz).frz)) rfl<|A0 (D1 rfl hb rfl) rfl<|ge 4 rfl rfl rfl
    ·obtain rfl:=os (bf hg hb)
     exact nT rfl hb rfl<|nT rfl hb rfl<|K6 (F4 rfl (by rw [hb]; rfl)) rfl<|A0 (D0 rfl hb rfl) rfl<|ge 4 rfl rfl rfl
    ·refine es (ra7 rfl rfl rfl rfl rfl rfl rfl) ?_
     have fin:∀{e'':Int},e'' = e'→WP tab (.s 0 [M 0 44 7,B 1 45 .neq 44 (.i 0)] [1,6,7,26,27,28,45] (.cond 45 (.s 0 [M 0 46 7,M 1 4 (.c (.lit (.pointer none))),M 2 5 46] [4,5] .ret) .skip)) [(1,.seq 3 (plan.map A8)),(6,.ptr (H.length + 3) 0),(7,.i e''),(26,.seq 3 (plan.map A8)),(27,.i plan.length),(28,.i i)] (H++(plB t X y.2++[.cells (A8 u)])) ⟨H.length + 4,H.length :: c.cur :: c.outer⟩ (B1v 2 (B82 tab (.g 0 [B 0 47 .add 28 (.i 1),M 1 28 47] [1,6,26,27,28]) ⟨H.length + 4,H.length :: c.cur :: c.outer⟩ (C0c true (fun i=>[(1,.seq 3 (plan.map A8)),(6,.ptr (H.length + 3) 0),(26,.seq 3 (plan.map A8)),(27,.i plan.length),(28,.i i)]) (fun (_:Unit) _=>H++plB t X y.2) (H.length + 4) (fun r e s' H'=>match r with | .inl v=>e = .ret∧s' = [(4,.lit (.pointer none)),(5,.i v)]∧(v != 0) = true∧∃ L,H' = H++L | .inr _=>PX 1 [(6,.ptr (H.length + 3) 0)] (H++plB t X y.2) e s' H') o))):=fun {e''} hee=>by
      subst hee
      refine s0<|qm rfl<|A0 (P6 rfl rfl) rfl<|es (ra7 rfl rfl rfl rfl rfl rfl rfl)<|wi hs rfl (fun hc2 hs=>?_) fun hc2 hs=>?_
      ·refine s0<|qm rfl<|qm rfl<|qm rfl<|es (ra2 rfl rfl)<|C7 ?_
       obtain rfl:=os hs
       exact lx rfl ⟨rfl,rfl,hc2,_,rfl⟩ (su2 rfl rfl)
      ·refine C9<|r0<|A0 (G6 rfl rfl) rfl<|qm rfl<|en (ra5 rfl rfl rfl rfl rfl) ?_
       cases hs
       exact lnT () rfl (su5 rfl rfl rfl rfl rfl)
     cases g with
     | true =>
      obtain rfl:=os he'
      exact M3 rfl rfl<|r0<|qm rfl<|en (ra6 rfl rfl rfl rfl rfl rfl) (fin rfl)
     | false =>
      obtain rfl:=os he'
      exact N6 rfl rfl<|C9<|C2x (su6 rfl rfl rfl rfl rfl rfl) (fin rfl)
   ·refine K4 ?_
    obtain rfl:=os hs
    exact lx rfl px (su1 rfl)
  ·rcases o with v | v
   ·rintro e s' H' - ⟨rfl,rfl,hv,L,rfl⟩
    obtain rfl:=os h
    exact ⟨rfl,rfl,.inl ⟨hv,rfl,L,rfl⟩⟩
   ·rintro e s' H' - ⟨rfl,rfl,rfl⟩
    obtain rfl:=os h
    refine s0<|qm rfl<|qm rfl<|qm rfl<|es (ra2 rfl rfl)<|C7 ?_
    exact ⟨rfl,rfl,.inr ⟨rfl,rfl,rfl⟩⟩
theorem A5f {t:PaShow} {plan:List PaUse} {x:Int × List Int} (h:A2c t plan = some x) (hx:(x.1 == 0) = true):∃X,New tab (.fn (.func 28) [] []) [.agg (B6 t),.seq 3 (plan.map A8)] 3 [.cells (B6 t),.cells (B6 t),X,.cells (A0j t x.2)]:= by
 unfold A2c at h
 refine oB h fun y hy h=>?_
 split at h
 ·next hc =>
  obtain ⟨X,hX⟩:=Z2 hy hc
  refine ⟨X,fun c H N hN=>?_⟩
  subst hN
  refine B68 (aq:=[.agg (B6 t),.seq 3 (plan.map A8)]) rfl rfl rfl (Q9 (X2 (A8h hX h) ?_))
  rintro e s' H' ⟨rfl,h5,⟨h6,_⟩ | ⟨h6,h4,rfl⟩⟩
  ·rw [show x.1 = 0 by simpa using hx] at h6; cases h6
  ·rw [h6] at h5
   refine ⟨trivial,_,A9 h4 (A9 h5 C0),A5 rfl (A5 rfl B9),Q3 ?_⟩
   exact A2l (N:=H.length) (B:=0) (j:=3) (o:=0) rfl
 ·next hc=>cases h; exact absurd hx hc
theorem A5e {c:Sc} {H:A1} {t:PaShow} {plan:List PaUse} {x:Int × List Int} (h:A2c t plan = some x) (hx:(x.1 == 0) = false) :
  H6 tab c H (.fn (.func 28) [] []) [.agg (B6 t),.seq 3 (plan.map A8)] [.lit (.pointer none),.i x.1] H:= by
 unfold A2c at h
 refine oB h fun y hy h=>?_
 split at h
 ·next hc =>
  obtain ⟨X,hX⟩:=Z2 hy hc
  refine V8 (aq:=[.agg (B6 t),.seq 3 (plan.map A8)]) rfl rfl rfl (Q9 (X2 (A8h hX h) ?_))
  rintro e s' H' ⟨rfl,h5,⟨h6,h4,L,rfl⟩ | ⟨h6,_⟩⟩
  ·exact ⟨trivial,_,_,A9 h4 (A9 h5 C0),A5 rfl (A5 rfl B9),A3 A4 (A3 A4 B1),List.take_left⟩
  ·rw [h6] at hx; cases hx
 ·next hc =>
  obtain rfl:=os h
  refine V8 (aq:=[.agg (B6 t),.seq 3 (plan.map A8)]) rfl rfl rfl (Q9 ?_)
  refine sg 0 rfl<|A0 (F9 (cs:=B6 t) rfl rfl rfl) rfl<|qm rfl<|qm rfl<|es (ra2 rfl rfl)<|s0<|A0 (E5 rfl rfl rfl) rfl<|N2 (N4 (rs:=[.lit (.pointer none),.i y.1]) rfl rfl (A2 (D8 rfl) B5) (A0m hy (by simpa using hc)) rfl) rfl<|qm rfl<|A0 (A7 rfl rfl) rfl<|A0 (A7 rfl rfl) rfl<|qm rfl<|qm rfl<|es (ra4 rfl rfl rfl rfl)<|C6<|C4<|s0<|qm rfl<|A0 (P6 rfl rfl) rfl<|qm rfl<|es (ra5 rfl rfl rfl rfl rfl)<|M3 rfl (nef hc)<|s0<|qm rfl<|qm rfl<|qm rfl<|es (ra2 rfl rfl)<|C7 ?_
  exact ⟨trivial,_,_,A9 rfl (A9 rfl C0),A5 rfl (A5 rfl B9),A3 A4 (A3 A4 B1),List.take_left⟩
def A8g (a0:PaShow) (a1:(List PaUse)) (x1:(Int × (List Int))) (s4:(Int × (List Int))):Option ((Int × (List Int)) ⊕ (List Int)) :=
 if (decide (s4.1 < (List.length a0.Gowns:Int))) = true then
  (idx a0.Gowns s4.1).bind fun x7 =>
  (if (x7.Pawn && (decide (x7.Last < 364))) = true then
  (A1f (pawn_show.mk a0 (Ar3.mk (pawn_way.mk ) (pawn_way.mk ) (pawn_way.mk )) x1.2) a1 s4.1).bind fun x10 =>
  some (!x10)
  else
  some false).bind fun x11 =>
  if x11 = true then
  (app 8 s4.2 [s4.1]).bind fun x13 =>
  some (.inl ((w64 (s4.1 + 1)),x13))
  else
  some (.inl ((w64 (s4.1 + 1)),s4.2))
 else
  some (.inr s4.2)
def A9x (a0:PaShow) (a1:(List PaUse)):Option ((List Int) × Int) :=
 (A2c a0 a1).bind fun x1 =>
 if (x1.1 == 0) = true then
  (loop (A8g a0 a1 x1) (0,([]:List Int))).bind fun (o14:(List Int)) =>
  some (o14,0)
 else
  some (([]:List Int),x1.1)
theorem B6i {c:Sc} {H:A1} {a0:PaShow} {a1:(List PaUse)} {r:((List Int) × Int)} (h:A9x a0 a1 = some r) :
  F2 tab c H (.fn (.func 35) [] []) [(.agg (B6 a0)),(.seq 3 (List.map A8 a1))] [(.fresh 1 (List.map cI r.1)),.i r.2]:= by
 unfold A9x at h
 refine cE rfl rfl<|sg 0 rfl<|A0 (F9 (cs:=B6 a0) rfl rfl rfl) rfl<|A0 A6f rfl<|qm rfl<|es (ra3 rfl rfl rfl)<|s0<|oB h fun x1 hx1 h=>A0 (E5 rfl rfl rfl) rfl<|qm rfl ?_
 by_cases hc2:(x1.1 == 0) = true
 ·rw [if_pos hc2] at h
  obtain ⟨X3,hX3⟩:=A5f hx1 hc2
  refine N2 (A02 hX3 rfl rfl (A2 (D8 rfl) (A2 rfl B5)) rfl) rfl<|qm rfl<|A0 (A7 rfl rfl) rfl<|A0 (A7 rfl rfl) rfl<|qm rfl<|qm rfl<|es (ra5 rfl rfl rfl rfl rfl)<|C6<|s0<|qm rfl<|A0 (Q5 (v:=(.b false)) rfl rfl rfl) rfl<|es (ra6 rfl rfl rfl rfl rfl rfl)<|N6 rfl rfl<|C9<|s0<|qm rfl<|A0 (A0q rfl rfl) rfl<|qm rfl<|es (ra4 rfl rfl rfl rfl)<|C6<|s0<|A0 (C3 rfl) rfl<|A0 (B7 rfl rfl rfl) rfl<|A0 (I6 (f:=C1) rfl) rfl<|qm rfl<|es (ra6 rfl rfl rfl rfl rfl rfl)<|C4<|oB h fun o14 ho14 h=>wl (fun s4=>[(1,(.seq 3 (List.map A8 a1))),(4,(.asl (H.length + 1) (List.length s4.2))),(7,(.fn (.func 57) [(.ptr (H.length + 5) 0)] [])),(22,(.seq 8 (List.map C1 a0.Gowns))),(23,(.i (List.length a0.Gowns:Int))),(24,.i s4.1)]) (fun (q5:Unit) s4=>[(.cells (B6 a0)),(.arr 1 false (List.map cI s4.2)),(.cells (B6 a0)),(.cells (B6 a0)),X3,(.cells [(.seq 8 (List.map C1 a0.Gowns)),(.seq 4 (List.map B3 a0.Figures)),.i a0.Purse,(.seq 2 (List.map D7 a0.Incomes)),(.fn (.func 41) [] []),(.fn (.func 42) [] []),(.fn (.func 43) [] []),(.fn (.func 25) [] []),(.fn (.func 44) [] []),(.fn (.func 45) [] []),(.fn (.func 26) [] []),(.fn (.func 46) [] []),(.fn (.func 47) [] []),(.seq 1 (List.map cI x1.2))])]) 6 (fun r e s' H'=>PX 0 [(4,(.asl (H.length + 1) (List.length r)))] (H++[(.cells (B6 a0)),(.arr 1 false (List.map cI r)),(.cells (B6 a0)),(.cells (B6 a0)),X3,(.cells [(.seq 8 (List.map C1 a0.Gowns)),(.seq 4 (List.map B3 a0.Figures)),.i a0.Purse,(.seq 2 (List.map D7 a0.Incomes)),(.fn (.func 41) [] []),(.fn (.func 42) [] []),(.fn (.func 43) [] []),(.fn (.func 25) [] []),(.fn (.func 44) [] []),(.fn (.func 45) [] []),(.fn (.func 26) [] []),(.fn (.func 46) [] []),(.fn (.func 47) [] []),(.seq 1 (List.map cI x1.2))])]) e s' H') () ho14 rfl rfl (fun _ _=>rfl) (fun _=>rfl) rfl (fun s4=>(bdc M0 (bdc (A2v rfl) (bdc (C7p (A3 (R0 rfl) B1) B1) (bdc M0 (bdc A4 (bdc A4 bdn))))))) (fun q5 s4 ys4 hs4=>?_) ?_
  ·unfold A8g at hs4
   refine s0<|A0 (L5 rfl rfl) rfl<|es (ra7 rfl rfl rfl rfl rfl rfl rfl)<|C6<|wi hs4 rfl (fun hc6 hs4=>?_) fun hc6 hs4=>?_
   ·refine C9<|C6<|C4<|sg 6 rfl<|oB hs4 fun x7 hx7 hs4=>qm rfl<|A0 (J0 (f:=C1) rfl rfl hx7) rfl<|A0 (H8 rfl rfl) rfl<|A0 G8 rfl<|qm rfl<|M4 (E4 (ds:=(C1 x7)) rfl rfl rfl rfl (D9 rfl) rfl) rfl<|es (ra8 rfl rfl rfl rfl rfl rfl rfl rfl)<|s0<|oB hs4 fun x11 hx11 hs4=>A0 (C3 rfl) rfl<|A0 (B7 rfl rfl rfl) rfl<|qm rfl<|gp 4 35 (.b (x7.Pawn && (decide (x7.Last < 364)))) 31 rfl rfl (fun hg8=>?_) (fun hg8=>?_) ?_
    ·exact gT rfl hg8<|A0 (C3 rfl) rfl<|gT rfl hg8<|A0 (B7 rfl rfl rfl) rfl<|gT rfl hg8<|A0 (L5 rfl rfl) rfl<|A0 (D1 rfl hg8 rfl) rfl<|ge 4 (by rw [hg8]; rfl) rfl rfl
    ·exact nT rfl hg8 rfl<|nT rfl hg8 rfl<|nT rfl hg8 rfl<|A0 (D0 rfl hg8 rfl) rfl<|ge 4 (by rw [hg8]; rfl) rfl rfl
    refine qm rfl<|gp 6 42 (.b x11) 36 rfl rfl (fun hg9=>?_) (fun hg9=>?_) ?_
    ·refine oB (bt hx11 hg9) fun x10 hx10 hx11=>?_
     obtain rfl:=os hx11
     exact gT rfl hg9<|qm rfl<|gT rfl hg9<|qm rfl<|gT rfl hg9<|qm rfl<|gT rfl hg9<|B8 (rs:=[.b x10]) rfl rfl (A2 rfl (A2 rfl B5)) ((A0k (A69 (D5 rfl) hx10)).frz)<|gT rfl hg9<|A0 (A5m rfl) rfl<|A0 (D1 rfl hg9 rfl) rfl<|ge 6 rfl rfl rfl
    ·obtain rfl:=os (bf hx11 hg9)
     exact nT rfl hg9 rfl<|nT rfl hg9 rfl<|nT rfl hg9 rfl<|K6 (F4 rfl (by rw [hg9]; rfl)) rfl<|nT rfl hg9 rfl<|A0 (D0 rfl hg9 rfl) rfl<|ge 6 rfl rfl rfl
    refine es (ra8 rfl rfl rfl rfl rfl rfl rfl rfl)<|wi hs4 rfl (fun hc12 hs4=>?_) fun hc12 hs4=>?_
    ·refine r0<|oB hs4 fun x13 hx13 hs4=>qm rfl<|qm rfl<|A0 (I1 (rows:=List.map cI [s4.1]) rfl rfl (E0 (fun _=>rfl) _)) rfl<|N2 (A9l (f:=cI) rfl rfl rfl rfl A91 (fun _=>rfl) hx13) rfl<|qm rfl<|en (ra6 rfl rfl rfl rfl rfl rfl)<|r0<|A0 (G6 rfl rfl) rfl<|qm rfl<|en (ra6 rfl rfl rfl rfl rfl rfl) ?_
     cases hs4
     exact lnT () rfl (su6 rfl rfl rfl rfl rfl rfl)
    ·refine C9<|r0<|A0 (G6 rfl rfl) rfl<|qm rfl<|en (ra6 rfl rfl rfl rfl rfl rfl) ?_
     cases hs4
     exact lnT () rfl (su6 rfl rfl rfl rfl rfl rfl)
   ·refine K4 ?_
    obtain rfl:=os hs4
    exact lx rfl px (su1 rfl)
  ·rintro e s' H' - ⟨rfl,rfl,rfl⟩
   refine s0<|qm rfl<|qm rfl<|qm rfl<|es (ra2 rfl rfl)<|C7 ?_
   obtain rfl:=os h
   exact retq trivial (A9 rfl (A9 rfl C0)) (A5 (A36 rfl (List.length_map _)) (A5 rfl B9)) (A3 X4 (A3 A4 B1))
 ·rw [if_neg hc2] at h
  refine N2 (N4 (rs:=[.lit (.pointer none),.i x1.1]) rfl rfl (A2 (D8 rfl) (A2 rfl B5)) (A5e hx1 (by simpa using hc2)) rfl) rfl<|qm rfl<|A0 (A7 rfl rfl) rfl<|A0 (A7 rfl rfl) rfl<|qm rfl<|qm rfl<|es (ra5 rfl rfl rfl rfl rfl)<|C6<|s0<|qm rfl<|A0 (P6 rfl rfl) rfl<|es (ra6 rfl rfl rfl rfl rfl rfl)<|M3 rfl (nef hc2)<|sg 2 rfl<|qm rfl<|A0 A6f rfl<|qm rfl<|es (ra2 rfl rfl)<|C7 ?_
  obtain rfl:=os h
  exact retq trivial (A9 rfl (A9 rfl C0)) (A5 (A36 rfl (List.length_map _)) (A5 rfl B9)) (A3 X4 (A3 A4 B1))
def A5d (a0:pawn_found) (a1:pawn_found):Option Int :=
 (A3u [(w64 (a0.without_ - a1.without_)),(w64 (a0.short_ - a1.short_))]).bind fun x1 =>
 some x1
theorem B22 {c:Sc} {H:A1} {a0:pawn_found} {a1:pawn_found} {r:Int} (h:A5d a0 a1 = some r) :
  F2 tab c H (.fn (.func 39) [] []) [(.agg (B2 a0)),(.agg (B2 a1))] [.i r]:= by
 unfold A5d at h
 refine cE rfl rfl<|sg 0 rfl<|A0 (F9 (cs:=B2 a0) rfl rfl rfl) rfl<|A0 (F9 (cs:=B2 a1) rfl rfl rfl) rfl<|qm rfl<|es (ra2 rfl rfl)<|s0<|oB h fun x1 hx1 h=>A0 (C3 rfl) rfl<|A0 (B7 rfl rfl rfl) rfl<|A0 (C3 rfl) rfl<|A0 (B7 rfl rfl rfl) rfl<|A0 (Z0 rfl rfl) rfl<|A0 (C3 rfl) rfl<|A0 (B7 rfl rfl rfl) rfl<|A0 (C3 rfl) rfl<|A0 (B7 rfl rfl rfl) rfl<|A0 (Z0 rfl rfl) rfl<|A0 (I1 (rows:=List.map cI [(w64 (a0.without_ - a1.without_)),(w64 (a0.short_ - a1.short_))]) rfl rfl (E0 (fun _=>rfl) _)) rfl<|B8 (rs:=[.i x1]) rfl rfl (A2 rfl B5) ((A6g hx1).frz)<|qm rfl<|es (ra1 rfl)<|C7 ?_
 obtain rfl:=os h
 exact retq trivial (A9 rfl C0) (A5 rfl B9) (A3 A4 B1)
def A9y (a0:PaShow):Option (Int × Int) :=
 (A0l a0).bind fun x1 =>
 if (x1.1 == 0) = true then
  (B65 (B61 a0 x1.2) A5d).bind fun x4 =>
  if (((!x4.2) || (decide (x4.1.without_ > 0))) || (decide (x4.1.short_ > 10000))) = true then
  some (0,9)
  else
  if (x4.1.short_ == 0) = true then
   some (0,4)
  else
   some (x4.1.short_,0)
 else
  some (0,x1.1)
theorem B6j {c:Sc} {H:A1} (hscv:O8 c H = true) {a0:PaShow} {r:(Int × Int)} (h:A9y a0 = some r) :
  F2 tab c H (.fn (.func 22) [] []) [(.agg (B6 a0))] [.i r.1,.i r.2]:= by
 unfold A9y at h
 refine cE rfl rfl<|sg 0 rfl<|A0 (F9 (cs:=B6 a0) rfl rfl rfl) rfl<|qm rfl<|qm rfl<|es (ra1 rfl)<|s0<|oB h fun x1 hx1 h=>A0 (E5 rfl rfl rfl) rfl ?_
 by_cases hc2:(x1.1 == 0) = true
 ·rw [if_pos hc2] at h
  obtain ⟨X3,hX3⟩:=Z2 hx1 hc2
  refine N2 (A02 hX3 rfl rfl (A2 (D8 rfl) B5) rfl) rfl<|qm rfl<|A0 (A7 rfl rfl) rfl<|A0 (A7 rfl rfl) rfl<|qm rfl<|qm rfl<|es (ra2 rfl rfl)<|C6<|s0<|qm rfl<|A0 (Q5 (v:=(.b false)) rfl rfl rfl) rfl<|es (ra3 rfl rfl rfl)<|N6 rfl rfl<|C9<|sg 4 rfl<|qm rfl<|A1y (as2:=[(.ptr (H.length + 3) 0)]) (H1:=(H++[(.cells (B6 a0)),(.cells (B6 a0)),X3,(.cells [(.seq 8 (List.map C1 a0.Gowns)),(.seq 4 (List.map B3 a0.Figures)),.i a0.Purse,(.seq 2 (List.map D7 a0.Incomes)),(.fn (.func 41) [] []),(.fn (.func 42) [] []),(.fn (.func 43) [] []),(.fn (.func 25) [] []),(.fn (.func 44) [] []),(.fn (.func 45) [] []),(.fn (.func 26) [] []),(.fn (.func 46) [] []),(.fn (.func 47) [] []),(.seq 1 (List.map cI x1.2))]),.dead])) rfl rfl (A2 rfl B5) rfl rfl rfl (A5z rfl)<|sg 5 rfl<|A0 (F9 (cs:=[(.ptr (H.length + 3) 0)]) rfl rfl rfl) rfl<|qm rfl<|es (ra1 rfl)<|s0<|A0 (A0q rfl rfl) rfl<|qm rfl<|es (ra1 rfl)<|C7<|InlQ.mk trivial ⟨_,_,_,[(.fn (.func 62) [] [(.ptr (H.length + 5) 0)])],_,(A9 rfl C0),(A5 rfl B9),(A5x (Q3 (A82 (Q3 (A2l rfl)))) (A5w rfl A9b)),?_⟩
  refine oB h fun x4 hx4 h=>B8 (rs:=[(.agg (B2 x4.1)),.b x4.2]) rfl rfl (A2 rfl (A2 rfl B5)) (B5y (C22 (t:=a0) (days:=x1.2) (bS:=H.length + 5) (b:=H.length + 3)) (fun h=>(B22 h).frz) (And.intro (D5 rfl) (D5 rfl)) (B3k hscv) hx4)<|qm rfl<|A0 (A7 rfl rfl) rfl<|A0 (A7 rfl rfl) rfl<|A0 G8 rfl<|M4 (E4 (ds:=(B2 x4.1)) rfl rfl rfl rfl (D9 rfl) rfl) rfl<|qm rfl<|es (ra2 rfl rfl)<|C6<|C4<|s0<|qm rfl<|A0 (A5m rfl) rfl<|qm rfl<|gp 4 29 (.b ((!x4.2) || (decide (x4.1.without_ > 0)))) 25 rfl rfl (fun hg5=>?_) (fun hg5=>?_) ?_
  ·exact nF rfl hg5 rfl<|nF rfl hg5 rfl<|nF rfl hg5 rfl<|A0 (D1 rfl hg5 rfl) rfl<|ge 4 (by rw [hg5]; rfl) rfl rfl
  ·exact gF rfl hg5<|A0 (C3 rfl) rfl<|gF rfl hg5<|A0 (B7 rfl rfl rfl) rfl<|gF rfl hg5<|A0 (A4m rfl rfl) rfl<|A0 (D0 rfl hg5 rfl) rfl<|ge 4 (by rw [hg5]; rfl) rfl rfl
  refine qm rfl<|gp 4 34 (.b (((!x4.2) || (decide (x4.1.without_ > 0))) || (decide (x4.1.short_ > 10000)))) 30 rfl rfl (fun hg6=>?_) (fun hg6=>?_) ?_
  ·exact nF rfl hg6 rfl<|nF rfl hg6 rfl<|nF rfl hg6 rfl<|A0 (D1 rfl hg6 rfl) rfl<|ge 4 (by rw [hg6]; rfl) rfl rfl
  ·exact gF rfl hg6<|A0 (C3 rfl) rfl<|gF rfl hg6<|A0 (B7 rfl rfl rfl) rfl<|gF rfl hg6<|A0 (A4m rfl rfl) rfl<|A0 (D0 rfl hg6 rfl) rfl<|ge 4 (by rw [hg6]; rfl) rfl rfl
  refine qm rfl<|es (ra2 rfl rfl)<|wi h rfl (fun hc7 h=>?_) fun hc7 h=>?_
  ·refine s0<|qm rfl<|qm rfl<|es (ra2 rfl rfl)<|C7 ?_
   obtain rfl:=os h
   exact retq trivial (A9 rfl (A9 rfl C0)) (A5 rfl (A5 rfl B9)) (A3 A4 (A3 A4 B1))
  ·refine s0<|A0 (C3 rfl) rfl<|A0 (B7 rfl rfl rfl) rfl<|A0 (I3 rfl rfl) rfl<|qm rfl<|es (ra2 rfl rfl)<|wi h rfl (fun hc8 h=>?_) fun hc8 h=>?_
   ·refine s0<|qm rfl<|qm rfl<|es (ra2 rfl rfl)<|C7 ?_
    obtain rfl:=os h
    exact retq trivial (A9 rfl (A9 rfl C0)) (A5 rfl (A5 rfl B9)) (A3 A4 (A3 A4 B1))
   ·refine C9<|s0<|A0 (C3 rfl) rfl<|A0 (B7 rfl rfl rfl) rfl<|qm rfl<|qm rfl<|es (ra2 rfl rfl)<|C7 ?_
    obtain rfl:=os h
    exact retq trivial (A9 rfl (A9 rfl C0)) (A5 rfl (A5 rfl B9)) (A3 A4 (A3 A4 B1))
 ·rw [if_neg hc2] at h
  refine N2 (N4 (rs:=[.lit (.pointer none),.i x1.1]) rfl rfl (A2 (D8 rfl) B5) (A0m hx1 (by simpa using hc2)) rfl) rfl<|qm rfl<|A0 (A7 rfl rfl) rfl<|A0 (A7 rfl rfl) rfl<|qm rfl<|qm rfl<|es (ra2 rfl rfl)<|C6<|s0<|qm rfl<|A0 (P6 rfl rfl) rfl<|es (ra3 rfl rfl rfl)<|M3 rfl (nef hc2)<|s0<|qm rfl<|qm rfl<|qm rfl<|es (ra2 rfl rfl)<|C7 ?_
  obtain rfl:=os h
  exact retq trivial (A9 rfl (A9 rfl C0)) (A5 rfl (A5 rfl B9)) (A3 A4 (A3 A4 B1))
def A2a (a0:PaShow) (a1:(List PaUse)) (a2:Int):Option (Int × Int) :=
 (A2c a0 a1).bind fun x1 =>
 if (x1.1 == 0) = true then
  (F3 0 364 [a2]).bind fun x4 =>
  if x4 = true then
  some (0,7)
  else
  (S5 (pawn_show.mk a0 (Ar3.mk (pawn_way.mk ) (pawn_way.mk ) (pawn_way.mk )) x1.2) a1 a2).bind fun x6 =>
  some (x6,0)
 else
  some (0,x1.1)
theorem A22 {c:Sc} {H:A1} {a0:PaShow} {a1:(List PaUse)} {a2:Int} {r:(Int × Int)} (h:A2a a0 a1 a2 = some r) :
  F2 tab c H (.fn (.func 11) [] []) [(.agg (B6 a0)),(.seq 3 (List.map A8 a1)),.i a2] [.i r.1,.i r.2]:= by
 unfold A2a at h
 refine cE rfl rfl<|sg 0 rfl<|A0 (F9 (cs:=B6 a0) rfl rfl rfl) rfl<|qm rfl<|qm rfl<|es (ra3 rfl rfl rfl)<|s0<|oB h fun x1 hx1 h=>A0 (E5 rfl rfl rfl) rfl<|qm rfl ?_
 by_cases hc2:(x1.1 == 0) = true
 ·rw [if_pos hc2] at h
  obtain ⟨X3,hX3⟩:=A5f hx1 hc2
  refine N2 (A02 hX3 rfl rfl (A2 (D8 rfl) (A2 rfl B5)) rfl) rfl<|qm rfl<|A0 (A7 rfl rfl) rfl<|A0 (A7 rfl rfl) rfl<|qm rfl<|qm rfl<|es (ra4 rfl rfl rfl rfl)<|C6<|C4<|s0<|qm rfl<|A0 (Q5 (v:=(.b false)) rfl rfl rfl) rfl<|qm rfl<|es (ra5 rfl rfl rfl rfl rfl)<|N6 rfl rfl<|s0<|oB h fun x4 hx4 h=>qm rfl<|A0 (I1 (rows:=List.map cI [a2]) rfl rfl (E0 (fun _=>rfl) _)) rfl<|B8 (rs:=[.b x4]) rfl rfl (A2 rfl (A2 rfl (A2 rfl B5))) ((E3 hx4).frz)<|qm rfl<|es (ra4 rfl rfl rfl rfl)<|wi h rfl (fun hc5 h=>?_) fun hc5 h=>?_
  ·refine s0<|qm rfl<|qm rfl<|es (ra2 rfl rfl)<|C7 ?_
   obtain rfl:=os h
   exact retq trivial (A9 rfl (A9 rfl C0)) (A5 rfl (A5 rfl B9)) (A3 A4 (A3 A4 B1))
  ·refine C9<|s0<|oB h fun x6 hx6 h=>qm rfl<|qm rfl<|qm rfl<|N2 (R3 (rs:=[.i x6]) rfl rfl ((A2s (D5 rfl) hx6).frz)) rfl<|qm rfl<|qm rfl<|es (ra2 rfl rfl)<|C7 ?_
   obtain rfl:=os h
   exact retq trivial (A9 rfl (A9 rfl C0)) (A5 rfl (A5 rfl B9)) (A3 A4 (A3 A4 B1))
 ·rw [if_neg hc2] at h
  refine N2 (N4 (rs:=[.lit (.pointer none),.i x1.1]) rfl rfl (A2 (D8 rfl) (A2 rfl B5)) (A5e hx1 (by simpa using hc2)) rfl) rfl<|qm rfl<|A0 (A7 rfl rfl) rfl<|A0 (A7 rfl rfl) rfl<|qm rfl<|qm rfl<|es (ra4 rfl rfl rfl rfl)<|C6<|C4<|s0<|qm rfl<|A0 (P6 rfl rfl) rfl<|qm rfl<|es (ra5 rfl rfl rfl rfl rfl)<|M3 rfl (nef hc2)<|s0<|qm rfl<|qm rfl<|qm rfl<|es (ra2 rfl rfl)<|C7 ?_
  obtain rfl:=os h
  exact retq trivial (A9 rfl (A9 rfl C0)) (A5 rfl (A5 rfl B9)) (A3 A4 (A3 A4 B1))
def Z6 (a0:PaShow) (a1:Int) (a2:Int):Option (Int × Int) :=
 (A0l a0).bind fun x1 =>
 if (x1.1 == 0) = true then
  (F3 0 (w64 ((List.length a0.Gowns:Int) - 1)) [a1]).bind fun x4 =>
  if x4 = true then
  some (0,4)
  else
  (idx a0.Gowns a1).bind fun x6 =>
  if (!x6.Pawn) = true then
   some (0,2)
  else
   (F3 0 364 [a2]).bind fun x8 =>
   if x8 = true then
   some (0,7)
   else
   (idx a0.Gowns a1).bind fun x10 =>
   if (decide (a2 > x10.Last)) = true then
    some (0,9)
   else
    (idx a0.Gowns a1).bind fun x12 =>
    (A1s x12 (PaFigure.mk (ByteArray.mk #[]) 0 0 0) a2).bind fun x13 =>
    some (x13,0)
 else
  some (0,x1.1)
theorem A0d {c:Sc} {H:A1} {a0:PaShow} {a1:Int} {a2:Int} {r:(Int × Int)} (h:Z6 a0 a1 a2 = some r) :
  F2 tab c H (.fn (.func 8) [] []) [(.agg (B6 a0)),.i a1,.i a2] [.i r.1,.i r.2]:= by
 unfold Z6 at h
 refine cE rfl rfl<|sg 0 rfl<|A0 (F9 (cs:=B6 a0) rfl rfl rfl) rfl<|qm rfl<|qm rfl<|es (ra3 rfl rfl rfl)<|s0<|oB h fun x1 hx1 h=>A0 (E5 rfl rfl rfl) rfl ?_
 by_cases hc2:(x1.1 == 0) = true
 ·rw [if_pos hc2] at h
  obtain ⟨X3,hX3⟩:=Z2 hx1 hc2
  refine N2 (A02 hX3 rfl rfl (A2 (D8 rfl) B5) rfl) rfl<|qm rfl<|A0 (A7 rfl rfl) rfl<|A0 (A7 rfl rfl) rfl<|qm rfl<|qm rfl<|es (ra4 rfl rfl rfl rfl)<|C6<|C4<|s0<|qm rfl<|A0 (Q5 (v:=(.b false)) rfl rfl rfl) rfl<|qm rfl<|es (ra5 rfl rfl rfl rfl rfl)<|N6 rfl rfl<|s0<|oB h fun x4 hx4 h=>A0 (C3 rfl) rfl<|A0 (B7 rfl rfl rfl) rfl<|A0 (I6 (f:=C1) rfl) rfl<|A0 (Z0 rfl rfl) rfl<|qm rfl<|A0 (I1 (rows:=List.map cI [a1]) rfl rfl (E0 (fun _=>rfl) _)) rfl<|B8 (rs:=[.b x4]) rfl rfl (A2 rfl (A2 rfl (A2 rfl B5))) ((E3 hx4).frz)<|qm rfl<|es (ra4 rfl rfl rfl rfl)<|wi h rfl (fun hc5 h=>?_) fun hc5 h=>?_
  ·refine s0<|qm rfl<|qm rfl<|es (ra2 rfl rfl)<|C7 ?_
   obtain rfl:=os h
   exact retq trivial (A9 rfl (A9 rfl C0)) (A5 rfl (A5 rfl B9)) (A3 A4 (A3 A4 B1))
  ·refine s0<|oB h fun x6 hx6 h=>A0 (C3 rfl) rfl<|A0 (B7 rfl rfl rfl) rfl<|qm rfl<|A0 (J0 (f:=C1) rfl rfl hx6) rfl<|A0 (C09 (ds:=(List.drop 2 (C1 x6))) rfl rfl) rfl<|A0 (A1j rfl rfl) rfl<|A0 (A5m rfl) rfl<|qm rfl<|es (ra4 rfl rfl rfl rfl)<|wi h rfl (fun hc7 h=>?_) fun hc7 h=>?_
   ·refine s0<|qm rfl<|qm rfl<|es (ra2 rfl rfl)<|C7 ?_
    obtain rfl:=os h
    exact retq trivial (A9 rfl (A9 rfl C0)) (A5 rfl (A5 rfl B9)) (A3 A4 (A3 A4 B1))
   ·refine s0<|oB h fun x8 hx8 h=>qm rfl<|A0 (I1 (rows:=List.map cI [a2]) rfl rfl (E0 (fun _=>rfl) _)) rfl<|B8 (rs:=[.b x8]) rfl rfl (A2 rfl (A2 rfl (A2 rfl B5))) ((E3 hx8).frz)<|qm rfl<|es (ra4 rfl rfl rfl rfl)<|wi h rfl (fun hc9 h=>?_) fun hc9 h=>?_
    ·refine s0<|qm rfl<|qm rfl<|es (ra2 rfl rfl)<|C7 ?_
     obtain rfl:=os h
     exact retq trivial (A9 rfl (A9 rfl C0)) (A5 rfl (A5 rfl B9)) (A3 A4 (A3 A4 B1))
    ·refine s0<|oB h fun x10 hx10 h=>qm rfl<|A0 (C3 rfl) rfl<|A0 (B7 rfl rfl rfl) rfl<|qm rfl<|A0 (J0 (f:=C1) rfl rfl hx10) rfl<|A0 (C09 (ds:=(List.drop 7 (C1 x10))) rfl rfl) rfl<|A0 (A1j rfl rfl) rfl<|A0 (A4m rfl rfl) rfl<|qm rfl<|es (ra4 rfl rfl rfl rfl)<|wi h rfl (fun hc11 h=>?_) fun hc11 h=>?_
     ·refine s0<|qm rfl<|qm rfl<|es (ra2 rfl rfl)<|C7 ?_
      obtain rfl:=os h
      exact retq trivial (A9 rfl (A9 rfl C0)) (A5 rfl (A5 rfl B9)) (A3 A4 (A3 A4 B1))
     ·refine C9<|s0<|oB h fun x12 hx12 h=>oB h fun x13 hx13 h=>A0 (C3 rfl) rfl<|A0 (B7 rfl rfl rfl) rfl<|qm rfl<|A0 (J0 (f:=C1) rfl rfl hx12) rfl<|A0 (H8 rfl rfl) rfl<|A0 (O1 (cs:=B3 (PaFigure.mk (ByteArray.mk #[]) 0 0 0)) rfl rfl) rfl<|qm rfl<|B8 (rs:=[.i x13]) rfl rfl (A2 (D8 rfl) (A2 (D8 rfl) (A2 rfl B5))) ((A4q hx13).frz)<|qm rfl<|qm rfl<|es (ra2 rfl rfl)<|C7 ?_
      obtain rfl:=os h
      exact retq trivial (A9 rfl (A9 rfl C0)) (A5 rfl (A5 rfl B9)) (A3 A4 (A3 A4 B1))
 ·rw [if_neg hc2] at h
  refine N2 (N4 (rs:=[.lit (.pointer none),.i x1.1]) rfl rfl (A2 (D8 rfl) B5) (A0m hx1 (by simpa using hc2)) rfl) rfl<|qm rfl<|A0 (A7 rfl rfl) rfl<|A0 (A7 rfl rfl) rfl<|qm rfl<|qm rfl<|es (ra4 rfl rfl rfl rfl)<|C6<|C4<|s0<|qm rfl<|A0 (P6 rfl rfl) rfl<|qm rfl<|es (ra5 rfl rfl rfl rfl rfl)<|M3 rfl (nef hc2)<|s0<|qm rfl<|qm rfl<|qm rfl<|es (ra2 rfl rfl)<|C7 ?_
  obtain rfl:=os h
  exact retq trivial (A9 rfl (A9 rfl C0)) (A5 rfl (A5 rfl B9)) (A3 A4 (A3 A4 B1))
def A38 (a0:PaShow) (a1:(List PaUse)):Option (Int × Int) :=
 (A2c a0 a1).bind fun x1 =>
 if (x1.1 == 0) = true then
  (Q0 (pawn_show.mk a0 (Ar3.mk (pawn_way.mk ) (pawn_way.mk ) (pawn_way.mk )) x1.2) a1).bind fun x4 =>
  if (x4.1 == 0) = true then
  some (0,4)
  else
  some (x4.2,0)
 else
  some (0,x1.1)
theorem A6j {c:Sc} {H:A1} {a0:PaShow} {a1:(List PaUse)} {r:(Int × Int)} (h:A38 a0 a1 = some r) :
  F2 tab c H (.fn (.func 34) [] []) [(.agg (B6 a0)),(.seq 3 (List.map A8 a1))] [.i r.1,.i r.2]:= by
 unfold A38 at h
 refine cE rfl rfl<|sg 0 rfl<|A0 (F9 (cs:=B6 a0) rfl rfl rfl) rfl<|qm rfl<|qm rfl<|es (ra2 rfl rfl)<|s0<|oB h fun x1 hx1 h=>A0 (E5 rfl rfl rfl) rfl<|qm rfl ?_
 by_cases hc2:(x1.1 == 0) = true
 ·rw [if_pos hc2] at h
  obtain ⟨X3,hX3⟩:=A5f hx1 hc2
  refine N2 (A02 hX3 rfl rfl (A2 (D8 rfl) (A2 rfl B5)) rfl) rfl<|qm rfl<|A0 (A7 rfl rfl) rfl<|A0 (A7 rfl rfl) rfl<|qm rfl<|qm rfl<|es (ra3 rfl rfl rfl)<|C6<|s0<|qm rfl<|A0 (Q5 (v:=(.b false)) rfl rfl rfl) rfl<|es (ra4 rfl rfl rfl rfl)<|N6 rfl rfl<|C9<|s0<|oB h fun x4 hx4 h=>qm rfl<|qm rfl<|N2 (R3 (rs:=[.i x4.1,.i x4.2]) rfl rfl ((A7a (D5 rfl) hx4).frz)) rfl<|qm rfl<|A0 (A7 rfl rfl) rfl<|A0 (A7 rfl rfl) rfl<|qm rfl<|qm rfl<|es (ra2 rfl rfl)<|C6<|s0<|qm rfl<|A0 (I3 rfl rfl) rfl<|es (ra2 rfl rfl)<|wi h rfl (fun hc5 h=>?_) fun hc5 h=>?_
  ·refine s0<|qm rfl<|qm rfl<|es (ra2 rfl rfl)<|C7 ?_
   obtain rfl:=os h
   exact retq trivial (A9 rfl (A9 rfl C0)) (A5 rfl (A5 rfl B9)) (A3 A4 (A3 A4 B1))
  ·refine C9<|s0<|qm rfl<|qm rfl<|qm rfl<|es (ra2 rfl rfl)<|C7 ?_
   obtain rfl:=os h
   exact retq trivial (A9 rfl (A9 rfl C0)) (A5 rfl (A5 rfl B9)) (A3 A4 (A3 A4 B1))
 ·rw [if_neg hc2] at h
  refine N2 (N4 (rs:=[.lit (.pointer none),.i x1.1]) rfl rfl (A2 (D8 rfl) (A2 rfl B5)) (A5e hx1 (by simpa using hc2)) rfl) rfl<|qm rfl<|A0 (A7 rfl rfl) rfl<|A0 (A7 rfl rfl) rfl<|qm rfl<|qm rfl<|es (ra3 rfl rfl rfl)<|C6<|s0<|qm rfl<|A0 (P6 rfl rfl) rfl<|es (ra4 rfl rfl rfl rfl)<|M3 rfl (nef hc2)<|s0<|qm rfl<|qm rfl<|qm rfl<|es (ra2 rfl rfl)<|C7 ?_
  obtain rfl:=os h
  exact retq trivial (A9 rfl (A9 rfl C0)) (A5 rfl (A5 rfl B9)) (A3 A4 (A3 A4 B1))
end Pw
end
