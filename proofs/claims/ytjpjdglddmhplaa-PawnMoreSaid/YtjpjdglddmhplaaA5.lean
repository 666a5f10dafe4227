/- Texts that the claim stands on, one behind another. -/
import Derived.Test.YtjpjdglddmhplaaA4
import Derived.Test.YtjpjdglddmhplaaChecked
import Derived.KernelRfl
set_option linter.unusedVariables false
set_option linter.unusedSimpArgs false
set_option linter.unnecessarySimpa false
open And renaming intro→ZO
open List renaming length_append→Zp,length_map→Zi,length→Zh,map→Zd
section
set_option maxRecDepth 100000
set_option maxHeartbeats 0
namespace Go.Proofs.Ytjpjdglddmhplaa
open Go Am Go.Proofs
theorem m5:B7 Try.prog Try.f5 Cd.a5=true:= by kernel_rfl
theorem m7:B7 Try.prog Try.f7 Cd.a7=true:= by kernel_rfl
theorem m8:B7 Try.prog Try.f8 Cd.a8=true:= by kernel_rfl
theorem m9:B7 Try.prog Try.f9 Cd.a9=true:= by kernel_rfl
theorem m10:B7 Try.prog Try.f10 Cd.a10=true:= by kernel_rfl
theorem m11:B7 Try.prog Try.f11 Cd.a11=true:= by kernel_rfl
theorem m12:B7 Try.prog Try.f12 Cd.a12=true:= by kernel_rfl
theorem m13:B7 Try.prog Try.f13 Cd.a13=true:= by kernel_rfl
theorem m14:B7 Try.prog Try.f14 Cd.a14=true:= by kernel_rfl
theorem m15:B7 Try.prog Try.f15 Cd.a15=true:= by kernel_rfl
theorem m16:B7 Try.prog Try.f16 Cd.a16=true:= by kernel_rfl
theorem m17:B7 Try.prog Try.f17 Cd.a17=true:= by kernel_rfl
theorem m18:B7 Try.prog Try.f18 Cd.a18=true:= by kernel_rfl
theorem m19:B7 Try.prog Try.f19 Cd.a19=true:= by kernel_rfl
theorem m20:B7 Try.prog Try.f20 Cd.a20=true:= by kernel_rfl
theorem m21:B7 Try.prog Try.f21 Cd.a21=true:= by kernel_rfl
theorem m22:B7 Try.prog Try.f22 Cd.a22=true:= by kernel_rfl
theorem m23:B7 Try.prog Try.f23 Cd.a23=true:= by kernel_rfl
theorem m24:B7 Try.prog Try.f24 Cd.a24=true:= by kernel_rfl
theorem m25:B7 Try.prog Try.f25 Cd.a25=true:= by kernel_rfl
theorem m26:B7 Try.prog Try.f26 Cd.a26=true:= by kernel_rfl
theorem m27:B7 Try.prog Try.f27 Cd.a27=true:= by kernel_rfl
theorem m28:B7 Try.prog Try.f28 Cd.a28=true:= by kernel_rfl
theorem m29:B7 Try.prog Try.f29 Cd.a29=true:= by kernel_rfl
theorem m30:B7 Try.prog Try.f30 Cd.a30=true:= by kernel_rfl
theorem m31:B7 Try.prog Try.f31 Cd.a31=true:= by kernel_rfl
theorem m32:B7 Try.prog Try.f32 Cd.a32=true:= by kernel_rfl
theorem m33:B7 Try.prog Try.f33 Cd.a33=true:= by kernel_rfl
theorem m34:B7 Try.prog Try.f34 Cd.a34=true:= by kernel_rfl
theorem m35:B7 Try.prog Try.f35 Cd.a35=true:= by kernel_rfl
theorem m36:B7 Try.prog Try.f36 Cd.a36=true:= by kernel_rfl
theorem m37:B7 Try.prog Try.f37 Cd.a37=true:= by kernel_rfl
theorem m38:B7 Try.prog Try.f38 Cd.a38=true:= by kernel_rfl
theorem m39:B7 Try.prog Try.f39 Cd.a39=true:= by kernel_rfl
theorem m40:B7 Try.prog Try.f40 Cd.a40=true:= by kernel_rfl
theorem m41:B7 Try.prog Try.f41 Cd.a41=true:= by kernel_rfl
theorem m42:B7 Try.prog Try.f42 Cd.a42=true:= by kernel_rfl
theorem m43:B7 Try.prog Try.f43 Cd.a43=true:= by kernel_rfl
theorem m44:B7 Try.prog Try.f44 Cd.a44=true:= by kernel_rfl
theorem m45:B7 Try.prog Try.f45 Cd.a45=true:= by kernel_rfl
theorem m46:B7 Try.prog Try.f46 Cd.a46=true:= by kernel_rfl
theorem m47:B7 Try.prog Try.f47 Cd.a47=true:= by kernel_rfl
theorem m48:B7 Try.prog Try.f48 Cd.a48=true:= by kernel_rfl
theorem m49:B7 Try.prog Try.f49 Cd.a49=true:= by kernel_rfl
theorem m50:B7 Try.prog Try.f50 Cd.a50=true:= by kernel_rfl
theorem m51:B7 Try.prog Try.f51 Cd.a51=true:= by kernel_rfl
theorem m52:B7 Try.prog Try.f52 Cd.a52=true:= by kernel_rfl
theorem m53:B7 Try.prog Try.f53 Cd.a53=true:= by kernel_rfl
theorem m54:B7 Try.prog Try.f54 Cd.a54=true:= by kernel_rfl
theorem m55:B7 Try.prog Try.f55 Cd.a55=true:= by kernel_rfl
theorem m56:B7 Try.prog Try.f56 Cd.a56=true:= by kernel_rfl
theorem m57:B7 Try.prog Try.f57 Cd.a57=true:= by kernel_rfl
theorem m58:B7 Try.prog Try.f58 Cd.a58=true:= by kernel_rfl
theorem m59:B7 Try.prog Try.f59 Cd.a59=true:= by kernel_rfl
theorem m60:B7 Try.prog Try.f60 Cd.a60=true:= by kernel_rfl
theorem m61:B7 Try.prog Try.f61 Cd.a61=true:= by kernel_rfl
theorem m62:B7 Try.prog Try.f62 Cd.a62=true:= by kernel_rfl
theorem m63:B7 Try.prog Try.f63 Cd.a63=true:= by kernel_rfl
theorem m64:B7 Try.prog Try.f64 Cd.a64=true:= by kernel_rfl
theorem m65:B7 Try.prog Try.f65 Cd.a65=true:= by kernel_rfl
theorem m66:B7 Try.prog Try.f66 Cd.a66=true:= by kernel_rfl
theorem m67:B7 Try.prog Try.f67 Cd.a67=true:= by kernel_rfl
theorem m68:B7 Try.prog Try.f68 Cd.a68=true:= by kernel_rfl
theorem m69:B7 Try.prog Try.f69 Cd.a69=true:= by kernel_rfl
theorem m70:B7 Try.prog Try.f70 Cd.a70=true:= by kernel_rfl
theorem m71:B7 Try.prog Try.f71 Cd.a71=true:= by kernel_rfl
theorem m72:B7 Try.prog Try.f72 Cd.a72=true:= by kernel_rfl
theorem m73:B7 Try.prog Try.f73 Cd.a73=true:= by kernel_rfl
theorem m74:B7 Try.prog Try.f74 Cd.a74=true:= by kernel_rfl
theorem m75:B7 Try.prog Try.f75 Cd.a75=true:= by kernel_rfl
theorem m76:B7 Try.prog Try.f76 Cd.a76=true:= by kernel_rfl
theorem m77:B7 Try.prog Try.f77 Cd.a77=true:= by kernel_rfl
theorem m78:B7 Try.prog Try.f78 Cd.a78=true:= by kernel_rfl
theorem m79:B7 Try.prog Try.f79 Cd.a79=true:= by kernel_rfl
theorem m80:B7 Try.prog Try.f80 Cd.a80=true:= by kernel_rfl
theorem m81:B7 Try.prog Try.f81 Cd.a81=true:= by kernel_rfl
theorem m82:B7 Try.prog Try.f82 Cd.a82=true:= by kernel_rfl
theorem m83:B7 Try.prog Try.f83 Cd.a83=true:= by kernel_rfl
theorem m84:B7 Try.prog Try.f84 Cd.a84=true:= by kernel_rfl
theorem m85:B7 Try.prog Try.f85 Cd.a85=true:= by kernel_rfl
theorem m86:B7 Try.prog Try.f86 Cd.a86=true:= by kernel_rfl
theorem m87:B7 Try.prog Try.f87 Cd.a87=true:= by kernel_rfl
theorem m88:B7 Try.prog Try.f88 Cd.a88=true:= by kernel_rfl
theorem m90:B7 Try.prog Try.f90 Cd.a90=true:= by kernel_rfl
theorem m91:B7 Try.prog Try.f91 Cd.a91=true:= by kernel_rfl
theorem m92:B7 Try.prog Try.f92 Cd.a92=true:= by kernel_rfl
theorem m93:B7 Try.prog Try.f93 Cd.a93=true:= by kernel_rfl
theorem m94:B7 Try.prog Try.f94 Cd.a94=true:= by kernel_rfl
theorem m95:B7 Try.prog Try.f95 Cd.a95=true:= by kernel_rfl
theorem m96:B7 Try.prog Try.f96 Cd.a96=true:= by kernel_rfl
theorem m97:B7 Try.prog Try.f97 Cd.a97=true:= by kernel_rfl
theorem m98:B7 Try.prog Try.f98 Cd.a98=true:= by kernel_rfl
theorem m99:B7 Try.prog Try.f99 Cd.a99=true:= by kernel_rfl
theorem m100:B7 Try.prog Try.f100 Cd.a100=true:= by kernel_rfl
theorem m101:B7 Try.prog Try.f101 Cd.a101=true:= by kernel_rfl
theorem m102:B7 Try.prog Try.f102 Cd.a102=true:= by kernel_rfl
theorem m103:B7 Try.prog Try.f103 Cd.a103=true:= by kernel_rfl
theorem m104:B7 Try.prog Try.f104 Cd.a104=true:= by kernel_rfl
theorem m105:B7 Try.prog Try.f105 Cd.a105=true:= by kernel_rfl
theorem D97:B9l Try.prog Cd.tab:= by
 intro i af h
 unfold Cd.tab at h
 split at h
 ·cases h;exact⟨Try.f5,Try.func5,m5⟩
 ·cases h;exact⟨Try.f7,Try.func7,m7⟩
 ·cases h;exact⟨Try.f8,Try.func8,m8⟩
 ·cases h;exact⟨Try.f9,Try.func9,m9⟩
 ·cases h;exact⟨Try.f10,Try.func10,m10⟩
 ·cases h;exact⟨Try.f11,Try.func11,m11⟩
 ·cases h;exact⟨Try.f12,Try.func12,m12⟩
 ·cases h;exact⟨Try.f13,Try.func13,m13⟩
 ·cases h;exact⟨Try.f14,Try.func14,m14⟩
 ·cases h;exact⟨Try.f15,Try.func15,m15⟩
 ·cases h;exact⟨Try.f16,Try.func16,m16⟩
 ·cases h;exact⟨Try.f17,Try.func17,m17⟩
 ·cases h;exact⟨Try.f18,Try.func18,m18⟩
 ·cases h;exact⟨Try.f19,Try.func19,m19⟩
 ·cases h;exact⟨Try.f20,Try.func20,m20⟩
 ·cases h;exact⟨Try.f21,Try.func21,m21⟩
 ·cases h;exact⟨Try.f22,Try.func22,m22⟩
 ·cases h;exact⟨Try.f23,Try.func23,m23⟩
 ·cases h;exact⟨Try.f24,Try.func24,m24⟩
 ·cases h;exact⟨Try.f25,Try.func25,m25⟩
 ·cases h;exact⟨Try.f26,Try.func26,m26⟩
 ·cases h;exact⟨Try.f27,Try.func27,m27⟩
 ·cases h;exact⟨Try.f28,Try.func28,m28⟩
 ·cases h;exact⟨Try.f29,Try.func29,m29⟩
 ·cases h;exact⟨Try.f30,Try.func30,m30⟩
 ·cases h;exact⟨Try.f31,Try.func31,m31⟩
 ·cases h;exact⟨Try.f32,Try.func32,m32⟩
 ·cases h;exact⟨Try.f33,Try.func33,m33⟩
 ·cases h;exact⟨Try.f34,Try.func34,m34⟩
 ·cases h;exact⟨Try.f35,Try.func35,m35⟩
 ·cases h;exact⟨Try.f36,Try.func36,m36⟩
 ·cases h;exact⟨Try.f37,Try.func37,m37⟩
 ·cases h;exact⟨Try.f38,Try.func38,m38⟩
 ·cases h;exact⟨Try.f39,Try.func39,m39⟩
 ·cases h;exact⟨Try.f40,Try.func40,m40⟩
 ·cases h;exact⟨Try.f41,Try.func41,m41⟩
 ·cases h;exact⟨Try.f42,Try.func42,m42⟩
 ·cases h;exact⟨Try.f43,Try.func43,m43⟩
 ·cases h;exact⟨Try.f44,Try.func44,m44⟩
 ·cases h;exact⟨Try.f45,Try.func45,m45⟩
 ·cases h;exact⟨Try.f46,Try.func46,m46⟩
 ·cases h;exact⟨Try.f47,Try.func47,m47⟩
 ·cases h;exact⟨Try.f48,Try.func48,m48⟩
 ·cases h;exact⟨Try.f49,Try.func49,m49⟩
 ·cases h;exact⟨Try.f50,Try.func50,m50⟩
 ·cases h;exact⟨Try.f51,Try.func51,m51⟩
 ·cases h;exact⟨Try.f52,Try.func52,m52⟩
 ·cases h;exact⟨Try.f53,Try.func53,m53⟩
 ·cases h;exact⟨Try.f54,Try.func54,m54⟩
 ·cases h;exact⟨Try.f55,Try.func55,m55⟩
 ·cases h;exact⟨Try.f56,Try.func56,m56⟩
 ·cases h;exact⟨Try.f57,Try.func57,m57⟩
 ·cases h;exact⟨Try.f58,Try.func58,m58⟩
 ·cases h;exact⟨Try.f59,Try.func59,m59⟩
 ·cases h;exact⟨Try.f60,Try.func60,m60⟩
 ·cases h;exact⟨Try.f61,Try.func61,m61⟩
 ·cases h;exact⟨Try.f62,Try.func62,m62⟩
 ·cases h;exact⟨Try.f63,Try.func63,m63⟩
 ·cases h;exact⟨Try.f64,Try.func64,m64⟩
 ·cases h;exact⟨Try.f65,Try.func65,m65⟩
 ·cases h;exact⟨Try.f66,Try.func66,m66⟩
 ·cases h;exact⟨Try.f67,Try.func67,m67⟩
 ·cases h;exact⟨Try.f68,Try.func68,m68⟩
 ·cases h;exact⟨Try.f69,Try.func69,m69⟩
 ·cases h;exact⟨Try.f70,Try.func70,m70⟩
 ·cases h;exact⟨Try.f71,Try.func71,m71⟩
 ·cases h;exact⟨Try.f72,Try.func72,m72⟩
 ·cases h;exact⟨Try.f73,Try.func73,m73⟩
 ·cases h;exact⟨Try.f74,Try.func74,m74⟩
 ·cases h;exact⟨Try.f75,Try.func75,m75⟩
 ·cases h;exact⟨Try.f76,Try.func76,m76⟩
 ·cases h;exact⟨Try.f77,Try.func77,m77⟩
 ·cases h;exact⟨Try.f78,Try.func78,m78⟩
 ·cases h;exact⟨Try.f79,Try.func79,m79⟩
 ·cases h;exact⟨Try.f80,Try.func80,m80⟩
 ·cases h;exact⟨Try.f81,Try.func81,m81⟩
 ·cases h;exact⟨Try.f82,Try.func82,m82⟩
 ·cases h;exact⟨Try.f83,Try.func83,m83⟩
 ·cases h;exact⟨Try.f84,Try.func84,m84⟩
 ·cases h;exact⟨Try.f85,Try.func85,m85⟩
 ·cases h;exact⟨Try.f86,Try.func86,m86⟩
 ·cases h;exact⟨Try.f87,Try.func87,m87⟩
 ·cases h;exact⟨Try.f88,Try.func88,m88⟩
 ·cases h;exact⟨Try.f90,Try.func90,m90⟩
 ·cases h;exact⟨Try.f91,Try.func91,m91⟩
 ·cases h;exact⟨Try.f92,Try.func92,m92⟩
 ·cases h;exact⟨Try.f93,Try.func93,m93⟩
 ·cases h;exact⟨Try.f94,Try.func94,m94⟩
 ·cases h;exact⟨Try.f95,Try.func95,m95⟩
 ·cases h;exact⟨Try.f96,Try.func96,m96⟩
 ·cases h;exact⟨Try.f97,Try.func97,m97⟩
 ·cases h;exact⟨Try.f98,Try.func98,m98⟩
 ·cases h;exact⟨Try.f99,Try.func99,m99⟩
 ·cases h;exact⟨Try.f100,Try.func100,m100⟩
 ·cases h;exact⟨Try.f101,Try.func101,m101⟩
 ·cases h;exact⟨Try.f102,Try.func102,m102⟩
 ·cases h;exact⟨Try.f103,Try.func103,m103⟩
 ·cases h;exact⟨Try.f104,Try.func104,m104⟩
 ·cases h;exact⟨Try.f105,Try.func105,m105⟩
 ·cases h
end Go.Proofs.Ytjpjdglddmhplaa
end
section
set_option maxRecDepth 100000
set_option maxHeartbeats 0
namespace Pw
open Go Am Go.Proofs.Ytjpjdglddmhplaa.Cd
structure PaGown where
 mk ::
 (Name:ByteArray)
 (Looks:Int)
 (Pawn:Bool)
 (Loan:Int)
 (Rate:Int)
 (Fee:Int)
 (Ago:Int)
 (Last:Int)
 deriving DecidableEq
def B2 (x:PaGown):List AV:=[.s x.Name,.i x.Looks,.b x.Pawn,.i x.Loan,.i x.Rate,.i x.Fee,.i x.Ago,.i x.Last]
structure PaFigure where
 mk ::
 (Name:ByteArray)
 (Day:Int)
 (Until:Int)
 (Needs:Int)
 deriving DecidableEq
def A6 (x:PaFigure):List AV:=[.s x.Name,.i x.Day,.i x.Until,.i x.Needs]
structure PaIncome where
 mk ::
 (Day:Int)
 (Pence:Int)
 deriving DecidableEq
def B1 (x:PaIncome):List AV:=[.i x.Day,.i x.Pence]
structure PaShow where
 mk ::
 (Gowns:(List PaGown))
 (Figures:(List PaFigure))
 (Purse:Int)
 (Incomes:(List PaIncome))
 deriving DecidableEq
def B6 (x:PaShow):List AV:=[(.seq 8 (Zd B2 x.Gowns)),(.seq 4 (Zd A6 x.Figures)),.i x.Purse,(.seq 2 (Zd B1 x.Incomes))]
structure PaUse where
 mk ::
 (Gown:Int)
 (How:Int)
 (Day:Int)
 deriving DecidableEq
def B3 (x:PaUse):List AV:=[.i x.Gown,.i x.How,.i x.Day]
structure pawn_way where
 mk ::
 deriving DecidableEq
structure pawn_show where
 mk ::
 (PaShow:PaShow)
 (ways_:(Ar3 pawn_way))
 (days_:(List Int))
 deriving DecidableEq
structure pawn_found where
 mk ::
 (plan_:(List PaUse))
 (without_:Int)
 (cost_:Int)
 (short_:Int)
 (had_:(Ar3 Int))
 deriving DecidableEq
def B8 (x:pawn_found):List AV:=[(.seq 3 (Zd B3 x.plan_)),.i x.without_,.i x.cost_,.i x.short_,.i x.had_.x0,.i x.had_.x1,.i x.had_.x2]
structure law04_Richer where
 mk ::
 (Purse:Int)
 (Rate:Int)
 (Fee:Int)
 (Last:Int)
 (Income:PaIncome)
 (Gown:PaGown)
 deriving DecidableEq
def G5 (x:law04_Richer):List AV:=[(.lit (.int .u8 x.Purse)),(.lit (.int .u8 x.Rate)),(.lit (.int .u8 x.Fee)),(.lit (.int .u8 x.Last)),.i x.Income.Day,.i x.Income.Pence,.s x.Gown.Name,.i x.Gown.Looks,.b x.Gown.Pawn,.i x.Gown.Loan,.i x.Gown.Rate,.i x.Gown.Fee,.i x.Gown.Ago,.i x.Gown.Last]
def A0a (a0:(List ByteArray)) (a1:ByteArray) (s1:Int):Option (Int⊕(Int⊕Unit)) :=
 if (decide (s1<(Zh a0:Int)))=true then
  (idx a0 s1).bind fun x4 =>
  if (eqS x4 a1)=true then
  some (.inr (.inl s1))
  else
  some (.inl (w64 (s1+1)))
 else
  some (.inr (.inr ()))
def A5l (a0:(List ByteArray)) (a1:ByteArray):Option Int :=
 (loop (A0a a0 a1) 0).bind fun (o6:(Int⊕Unit)) =>
 match o6 with
 | (.inl vo6_0) =>
  some vo6_0
 | (.inr vo6_1) =>
  some (-1)
theorem B7r {c:Sc} {H:A1} {a0:(List ByteArray)} {a1:ByteArray} {r:Int} (h:A5l a0 a1=some r) :
  E7 tab c H (.fn (.func 76) [] []) [(.seq 1 (Zd cS a0)),.s a1] [.i r]:= by
 unfold A5l at h
 refine cE Z Z<|s0<|qm Z<|es (ra2 Z Z)<|C4<|s0<|qm Z<|es (ra3 Z Z Z)<|C8<|oB h fun o6 ho6 h=>wl (fun s1=>[(0,(.seq 1 (Zd cS a0))),(1,.s a1),(5,.i s1)]) (fun (q2:Unit) s1=>[]) 0 (fun r e s' H'=>(match r with|(.inl v)=>e=.ret∧RetQ H [.tmp 4] [.i v] e s' H' | (.inr v)=>PX 0 [] (H++[]) e s' H':Prop)) () ho6 Z Z (fun _ _=>rfl) (fun _=>rfl) Z (fun s1=>(bdc N7 (bdc A5 (bdc A5 bdn)))) (fun q2 s1 ys1 hs1=>?_) ?_
 ·unfold A0a at hs1
  refine C4<|s0<|qm Z<|qm Z<|A0 (I0 (f:=cS) Z) Z<|A0 (L5 Z Z) Z<|es (ra4 Z Z Z Z)<|wi hs1 Z (fun hc3 hs1=>?_) fun hc3 hs1=>?_
  ·refine C6<|C4<|C8<|s0<|oB hs1 fun x4 hx4 hs1=>qm Z<|qm Z<|A0 (H7 (f:=cS) Z Z hx4) Z<|A0 (V8 Z Z) Z<|qm Z<|A0 (D0x Z Z) Z<|es (ra4 Z Z Z Z)<|wi hs1 Z (fun hc5 hs1=>?_) fun hc5 hs1=>?_
   ·refine s0<|qm Z<|qm Z<|es (ra1 Z)<|C7 ?_
    obtain rfl:=os hs1
    exact lx Z (ZO Z (retq trivial (A7 Z C0) (A4 Z B9) (A2 A5 A8))) (Sub.refl _)
   ·refine C6<|r0<|qm Z<|A0 (G1 Z Z) Z<|qm Z<|en (ra3 Z Z Z) ?_
    cases hs1
    exact lnT () Z (su3 Z Z Z)
  ·refine J1 ?_
   obtain rfl:=os hs1
   exact lx Z px (.nil _)
 ·rcases o6 with vo6_0|vo6_1
  ·rintro e s' H'-⟨rfl,hret⟩
   cases h
   exact hret
  ·rintro e s' H'-⟨rfl,rfl,rfl⟩
   refine s0<|qm Z<|es (ra1 Z)<|C7 ?_
   obtain rfl:=os h
   exact retq trivial (A7 Z C0) (A4 Z B9) (A2 A5 A8)
def A2b (a0:Int) (a1:Int) (a2:Int):Option Bool :=
 some ((decide (a0≥a1))&&(decide (a0≤a2)))
theorem A7s {c:Sc} {H:A1} {a0:Int} {a1:Int} {a2:Int} {r:Bool} (h:A2b a0 a1 a2=some r) :
  E7 tab c H (.fn (.func 96) [] []) [.i a0,.i a1,.i a2] [.b r]:= by
 unfold A2b at h
 refine cE Z Z<|s0<|qm Z<|es (ra3 Z Z Z)<|s0<|qm Z<|qm Z<|A0 (A7x Z Z) Z<|qm Z<|gp 4 14 (.b ((decide (a0≥a1))&&(decide (a0≤a2)))) 10 Z Z (fun hg1=>?_) (fun hg1=>?_) ?_
 ·exact gT Z hg1<|qm Z<|gT Z hg1<|qm Z<|gT Z hg1<|A0 (A4f Z Z) Z<|A0 (D1 Z hg1 Z) Z<|ge 4 (by rw[hg1];rfl) Z Z
 ·exact nT Z hg1 Z<|nT Z hg1 Z<|nT Z hg1 Z<|A0 (D0 Z hg1 Z) Z<|ge 4 (by rw[hg1];rfl) Z Z
 refine qm Z<|es (ra1 Z)<|C7 ?_
 obtain rfl:=os h
 exact retq trivial (A7 Z C0) (A4 Z B9) (A2 A5 A8)
def A06 (a0:ByteArray) (s3:Int):Option (Int⊕(Bool⊕Unit)) :=
 if (decide (s3<(ByteArray.size a0:Int)))=true then
  (B2k a0 s3).bind fun x6 =>
  (A2b (w64 x6) 97 122).bind fun x7 =>
  (B2k a0 s3).bind fun x8 =>
  (A2b (w64 x8) 48 57).bind fun x9 =>
  (if x9=true then
  some true
  else
  (B2k a0 s3).bind fun x11 =>
  some (x11==46)).bind fun x12 =>
  if ((!x7)&&((s3==0)||(!x12)))=true then
  some (.inr (.inl false))
  else
  some (.inl (w64 (s3+1)))
 else
  some (.inr (.inr ()))
def A4y (a0:ByteArray):Option Bool :=
 if (((ByteArray.size a0:Int)==0)||(decide ((ByteArray.size a0:Int)>16)))=true then
  some false
 else
  (loop (A06 a0) 0).bind fun (o16:(Bool⊕Unit)) =>
  match o16 with
  | (.inl vo16_0) =>
  some vo16_0
  | (.inr vo16_1) =>
  some true
theorem B89 {c:Sc} {H:A1} {a0:ByteArray} {r:Bool} (h:A4y a0=some r) :
  E7 tab c H (.fn (.func 75) [] []) [.s a0] [.b r]:= by
 unfold A4y at h
 refine cE Z Z<|s0<|qm Z<|es (ra1 Z)<|C4<|s0<|qm Z<|A0 (C17 Z) Z<|A0 (K0 Z Z) Z<|qm Z<|gp 4 13 (.b (((ByteArray.size a0:Int)==0)||(decide ((ByteArray.size a0:Int)>16)))) 9 Z Z (fun hg1=>?_) (fun hg1=>?_) ?_
 ·exact nF Z hg1 Z<|nF Z hg1 Z<|nF Z hg1 Z<|A0 (D1 Z hg1 Z) Z<|ge 4 (by rw[hg1];rfl) Z Z
 ·exact gF Z hg1<|qm Z<|gF Z hg1<|A0 (C17 Z) Z<|gF Z hg1<|A0 (A3b Z Z) Z<|A0 (D0 Z hg1 Z) Z<|ge 4 (by rw[hg1];rfl) Z Z
 refine es (ra2 Z Z)<|wi h Z (fun hc2 h=>?_) fun hc2 h=>?_
 ·refine s0<|qm Z<|es (ra1 Z)<|C7 ?_
  obtain rfl:=os h
  exact retq trivial (A7 Z C0) (A4 Z B9) (A2 A5 A8)
 ·refine C6<|C4<|s0<|qm Z<|es (ra2 Z Z)<|C8<|oB h fun o16 ho16 h=>wl (fun s3=>[(0,.s a0),(3,.i s3)]) (fun (q4:Unit) s3=>[]) 0 (fun r e s' H'=>(match r with|(.inl v)=>e=.ret∧RetQ H [.tmp 2] [.b v] e s' H' | (.inr v)=>PX 0 [] (H++[]) e s' H':Prop)) () ho16 Z Z (fun _ _=>rfl) (fun _=>rfl) Z (fun s3=>(bdc A5 (bdc A5 bdn))) (fun q4 s3 ys3 hs3=>?_) ?_
  ·unfold A06 at hs3
   refine C4<|s0<|qm Z<|qm Z<|A0 (C17 Z) Z<|A0 (L5 Z Z) Z<|es (ra3 Z Z Z)<|wi hs3 Z (fun hc5 hs3=>?_) fun hc5 hs3=>?_
   ·refine C6<|C4<|C8<|s0<|oB hs3 fun x6 hx6 hs3=>oB hs3 fun x7 hx7 hs3=>qm Z<|qm Z<|A0 (A8j Z Z hx6) Z<|A0 (A4s Z) Z<|C3 (rs:=[.b x7]) Z Z (A3 Z (A3 Z (A3 Z C2))) ((A7s hx7).frz)<|qm Z<|es (ra3 Z Z Z)<|s0<|oB hs3 fun x8 hx8 hs3=>oB hs3 fun x9 hx9 hs3=>oB hs3 fun x12 hx12 hs3=>qm Z<|qm Z<|A0 (A8j Z Z hx8) Z<|A0 (A4s Z) Z<|C3 (rs:=[.b x9]) Z Z (A3 Z (A3 Z (A3 Z C2))) ((A7s hx9).frz)<|qm Z<|gp 5 35 (.b x12) 30 Z Z (fun hg10=>?_) (fun hg10=>?_) ?_
    ·obtain rfl:=os (bt hx12 hg10)
     exact nF Z hg10 Z<|nF Z hg10 Z<|nF Z hg10 Z<|nF Z hg10 Z<|A0 (D1 Z hg10 Z) Z<|ge 5 Z Z Z
    ·refine oB (bf hx12 hg10) fun x11 hx11 hx12=>?_
     obtain rfl:=os hx12
     exact gF Z hg10<|qm Z<|gF Z hg10<|qm Z<|gF Z hg10<|A0 (A8j Z Z hx11) Z<|gF Z hg10<|A0 (K0 Z Z) Z<|A0 (D0 Z hg10 Z) Z<|ge 5 Z Z Z
    refine qm Z<|es (ra4 Z Z Z Z)<|s0<|qm Z<|A0 (Y9 Z) Z<|qm Z<|gp 7 45 (.b ((!x7)&&((s3==0)||(!x12)))) 38 Z Z (fun hg13=>?_) (fun hg13=>?_) ?_
    ·refine gT Z hg13<|qm Z<|gT Z hg13<|A0 (K0 Z Z) Z<|gT Z hg13<|qm Z<|gq 3 44 (.b ((s3==0)||(!x12))) 41 Z Z (fun hg14=>?_) (fun hg14=>?_) ?_
     ·exact nF Z hg14 Z<|nF Z hg14 Z<|gT Z hg13<|A0 (D1 Z hg14 Z) Z<|ge 3 (by rw[hg14];rfl) Z Z
     ·exact gF Z hg14<|qm Z<|gF Z hg14<|A0 (Y9 Z) Z<|gT Z hg13<|A0 (D0 Z hg14 Z) Z<|ge 3 (by rw[hg14];rfl) Z Z
     exact A0 (D1 Z hg13 Z) Z<|ge 5 (by rw[hg13];rfl) Z Z
    ·exact nT Z hg13 Z<|nT Z hg13 Z<|nT Z hg13 Z<|nX Z Z<|nX Z Z<|nT Z hg13 Z<|A0 (D0 Z hg13 Z) Z<|ge 7 (by rw[hg13];rfl) Z Z
    refine es (ra3 Z Z Z)<|wi hs3 Z (fun hc15 hs3=>?_) fun hc15 hs3=>?_
    ·refine s0<|qm Z<|es (ra1 Z)<|C7 ?_
     obtain rfl:=os hs3
     exact lx Z (ZO Z (retq trivial (A7 Z C0) (A4 Z B9) (A2 A5 A8))) (Sub.refl _)
    ·refine C6<|r0<|qm Z<|A0 (G1 Z Z) Z<|qm Z<|en (ra2 Z Z) ?_
     cases hs3
     exact lnT () Z (su2 Z Z)
   ·refine J1 ?_
    obtain rfl:=os hs3
    exact lx Z px (.nil _)
  ·rcases o16 with vo16_0|vo16_1
   ·rintro e s' H'-⟨rfl,hret⟩
    cases h
    exact hret
   ·rintro e s' H'-⟨rfl,rfl,rfl⟩
    refine s0<|qm Z<|es (ra1 Z)<|C7 ?_
    obtain rfl:=os h
    exact retq trivial (A7 Z C0) (A4 Z B9) (A2 A5 A8)
def A4b (a0:ByteArray) (a1:(List ByteArray)):Option Int :=
 (A4y a0).bind fun x1 =>
 if (!x1)=true then
  some 6
 else
  (A5l a1 a0).bind fun x3 =>
  if (decide (x3≥0))=true then
  some 5
  else
  some 0
theorem B1y {c:Sc} {H:A1} {a0:ByteArray} {a1:(List ByteArray)} {r:Int} (h:A4b a0 a1=some r) :
  E7 tab c H (.fn (.func 58) [] []) [.s a0,(.seq 1 (Zd cS a1))] [.i r]:= by
 unfold A4b at h
 refine cE Z Z<|s0<|qm Z<|es (ra2 Z Z)<|C4<|s0<|oB h fun x1 hx1 h=>qm Z<|C3 (rs:=[.b x1]) Z Z (A3 Z C2) ((B89 hx1).frz)<|A0 (Y9 Z) Z<|es (ra3 Z Z Z)<|wi h Z (fun hc2 h=>?_) fun hc2 h=>?_
 ·refine s0<|qm Z<|es (ra1 Z)<|C7 ?_
  obtain rfl:=os h
  exact retq trivial (A7 Z C0) (A4 Z B9) (A2 A5 A8)
 ·refine C6<|C4<|s0<|oB h fun x3 hx3 h=>qm Z<|qm Z<|C3 (rs:=[.i x3]) Z Z (A3 Z (A3 Z C2)) ((B7r hx3).frz)<|A0 (A7x Z Z) Z<|es (ra1 Z)<|wi h Z (fun hc4 h=>?_) fun hc4 h=>?_
  ·refine s0<|qm Z<|es (ra1 Z)<|C7 ?_
   obtain rfl:=os h
   exact retq trivial (A7 Z C0) (A4 Z B9) (A2 A5 A8)
  ·refine C6<|s0<|qm Z<|es (ra1 Z)<|C7 ?_
   obtain rfl:=os h
   exact retq trivial (A7 Z C0) (A4 Z B9) (A2 A5 A8)
def R2 (a0:Int) (a1:Int) (a2:Int):Option Bool :=
 some ((decide (a0≥a1))&&(decide (a0≤a2)))
theorem O4 {c:Sc} {H:A1} {a0:Int} {a1:Int} {a2:Int} {r:Bool} (h:R2 a0 a1 a2=some r) :
  E7 tab c H (.fn (.func 61) [] []) [.i a0,.i a1,.i a2] [.b r]:= by
 unfold R2 at h
 refine cE Z Z<|s0<|qm Z<|es (ra3 Z Z Z)<|s0<|qm Z<|qm Z<|A0 (A7x Z Z) Z<|qm Z<|gp 4 14 (.b ((decide (a0≥a1))&&(decide (a0≤a2)))) 10 Z Z (fun hg1=>?_) (fun hg1=>?_) ?_
 ·exact gT Z hg1<|qm Z<|gT Z hg1<|qm Z<|gT Z hg1<|A0 (A4f Z Z) Z<|A0 (D1 Z hg1 Z) Z<|ge 4 (by rw[hg1];rfl) Z Z
 ·exact nT Z hg1 Z<|nT Z hg1 Z<|nT Z hg1 Z<|A0 (D0 Z hg1 Z) Z<|ge 4 (by rw[hg1];rfl) Z Z
 refine qm Z<|es (ra1 Z)<|C7 ?_
 obtain rfl:=os h
 exact retq trivial (A7 Z C0) (A4 Z B9) (A2 A5 A8)
def A2c (a0:PaFigure):Option Int :=
 (R2 a0.Day 0 364).bind fun x1 =>
 (if (!x1)=true then
  some true
 else
  (R2 a0.Until 0 364).bind fun x3 =>
  some (!x3)).bind fun x4 =>
 (if x4=true then
  some true
 else
  (R2 a0.Needs 0 15).bind fun x6 =>
  some (!x6)).bind fun x7 =>
 if x7=true then
  some 7
 else
  if (decide (a0.Day>a0.Until))=true then
  some 2
  else
  some 0
theorem B5g {c:Sc} {H:A1} {a0:PaFigure} {r:Int} (h:A2c a0=some r) :
  E7 tab c H (.fn (.func 60) [] []) [(.agg (A6 a0))] [.i r]:= by
 unfold A2c at h
 refine cE Z Z<|sg 0 Z<|A0 (F6 (cs:=A6 a0) Z Z Z) Z<|qm Z<|es (ra1 Z)<|C4<|s0<|oB h fun x1 hx1 h=>oB h fun x4 hx4 h=>oB h fun x7 hx7 h=>A0 (C1 Z) Z<|A0 (B5 Z Z Z) Z<|C3 (rs:=[.b x1]) Z Z (A3 Z (A3 Z (A3 Z C2))) ((O4 hx1).frz)<|A0 (Y9 Z) Z<|qm Z<|gp 5 12 (.b x4) 7 Z Z (fun hg2=>?_) (fun hg2=>?_) ?_
 ·obtain rfl:=os (bt hx4 hg2)
  exact nF Z hg2 Z<|nF Z hg2 Z<|L7 (F4 Z (by rw[hg2];rfl)) Z<|nF Z hg2 Z<|A0 (D1 Z hg2 Z) Z<|ge 5 Z Z Z
 ·refine oB (bf hx4 hg2) fun x3 hx3 hx4=>?_
  obtain rfl:=os hx4
  exact gF Z hg2<|A0 (C1 Z) Z<|gF Z hg2<|A0 (B5 Z Z Z) Z<|gF Z hg2<|C3 (rs:=[.b x3]) Z Z (A3 Z (A3 Z (A3 Z C2))) ((O4 hx3).frz)<|gF Z hg2<|A0 (Y9 Z) Z<|A0 (D0 Z hg2 Z) Z<|ge 5 Z Z Z
 refine qm Z<|gp 5 18 (.b x7) 13 Z Z (fun hg5=>?_) (fun hg5=>?_) ?_
 ·obtain rfl:=os (bt hx7 hg5)
  exact nF Z hg5 Z<|nF Z hg5 Z<|L7 (F4 Z (by rw[hg5];rfl)) Z<|nF Z hg5 Z<|A0 (D1 Z hg5 Z) Z<|ge 5 Z Z Z
 ·refine oB (bf hx7 hg5) fun x6 hx6 hx7=>?_
  obtain rfl:=os hx7
  exact gF Z hg5<|A0 (C1 Z) Z<|gF Z hg5<|A0 (B5 Z Z Z) Z<|gF Z hg5<|C3 (rs:=[.b x6]) Z Z (A3 Z (A3 Z (A3 Z C2))) ((O4 hx6).frz)<|gF Z hg5<|A0 (Y9 Z) Z<|A0 (D0 Z hg5 Z) Z<|ge 5 Z Z Z
 refine es (ra2 Z Z)<|wi h Z (fun hc8 h=>?_) fun hc8 h=>?_
 ·refine s0<|qm Z<|es (ra1 Z)<|C7 ?_
  obtain rfl:=os h
  exact retq trivial (A7 Z C0) (A4 Z B9) (A2 A5 A8)
 ·refine C6<|C4<|s0<|A0 (C1 Z) Z<|A0 (B5 Z Z Z) Z<|A0 (C1 Z) Z<|A0 (B5 Z Z Z) Z<|A0 (A3b Z Z) Z<|es (ra1 Z)<|wi h Z (fun hc9 h=>?_) fun hc9 h=>?_
  ·refine s0<|qm Z<|es (ra1 Z)<|C7 ?_
   obtain rfl:=os h
   exact retq trivial (A7 Z C0) (A4 Z B9) (A2 A5 A8)
  ·refine C6<|s0<|qm Z<|es (ra1 Z)<|C7 ?_
   obtain rfl:=os h
   exact retq trivial (A7 Z C0) (A4 Z B9) (A2 A5 A8)
def A4z (a0:PaGown):Option Bool :=
 (R2 a0.Looks 0 15).bind fun x1 =>
 if (!x1)=true then
  some false
 else
  if (!a0.Pawn)=true then
  some (((((a0.Loan==0)&&(a0.Rate==0))&&(a0.Fee==0))&&(a0.Ago==0))&&(a0.Last==0))
  else
  (R2 a0.Loan 0 5000).bind fun x8 =>
  (if x8=true then
   (R2 a0.Rate 0 500).bind fun x10 =>
   some x10
  else
   some false).bind fun x11 =>
  (if x11=true then
   (R2 a0.Fee 0 100).bind fun x13 =>
   some x13
  else
   some false).bind fun x14 =>
  (if x14=true then
   (R2 a0.Ago 0 364).bind fun x16 =>
   some x16
  else
   some false).bind fun x17 =>
  (if x17=true then
   (R2 a0.Last 0 364).bind fun x19 =>
   some x19
  else
   some false).bind fun x20 =>
  some x20
theorem B9b {c:Sc} {H:A1} {a0:PaGown} {r:Bool} (h:A4z a0=some r) :
  E7 tab c H (.fn (.func 59) [] []) [(.agg (B2 a0))] [.b r]:= by
 unfold A4z at h
 refine cE Z Z<|sg 0 Z<|A0 (F6 (cs:=B2 a0) Z Z Z) Z<|qm Z<|es (ra1 Z)<|C4<|s0<|oB h fun x1 hx1 h=>A0 (C1 Z) Z<|A0 (B5 Z Z Z) Z<|C3 (rs:=[.b x1]) Z Z (A3 Z (A3 Z (A3 Z C2))) ((O4 hx1).frz)<|A0 (Y9 Z) Z<|es (ra2 Z Z)<|wi h Z (fun hc2 h=>?_) fun hc2 h=>?_
 ·refine s0<|qm Z<|es (ra1 Z)<|C7 ?_
  obtain rfl:=os h
  exact retq trivial (A7 Z C0) (A4 Z B9) (A2 A5 A8)
 ·refine C6<|C4<|s0<|A0 (C1 Z) Z<|A0 (B5 Z Z Z) Z<|A0 (Y9 Z) Z<|es (ra2 Z Z)<|wi h Z (fun hc3 h=>?_) fun hc3 h=>?_
  ·refine s0<|A0 (C1 Z) Z<|A0 (B5 Z Z Z) Z<|A0 (K0 Z Z) Z<|qm Z<|gp 4 17 (.b ((a0.Loan==0)&&(a0.Rate==0))) 13 Z Z (fun hg4=>?_) (fun hg4=>?_) ?_
   ·exact gT Z hg4<|A0 (C1 Z) Z<|gT Z hg4<|A0 (B5 Z Z Z) Z<|gT Z hg4<|A0 (K0 Z Z) Z<|A0 (D1 Z hg4 Z) Z<|ge 4 (by rw[hg4];rfl) Z Z
   ·exact nT Z hg4 Z<|nT Z hg4 Z<|nT Z hg4 Z<|A0 (D0 Z hg4 Z) Z<|ge 4 (by rw[hg4];rfl) Z Z
   refine qm Z<|gp 4 22 (.b (((a0.Loan==0)&&(a0.Rate==0))&&(a0.Fee==0))) 18 Z Z (fun hg5=>?_) (fun hg5=>?_) ?_
   ·exact gT Z hg5<|A0 (C1 Z) Z<|gT Z hg5<|A0 (B5 Z Z Z) Z<|gT Z hg5<|A0 (K0 Z Z) Z<|A0 (D1 Z hg5 Z) Z<|ge 4 (by rw[hg5];rfl) Z Z
   ·exact nT Z hg5 Z<|nT Z hg5 Z<|nT Z hg5 Z<|A0 (D0 Z hg5 Z) Z<|ge 4 (by rw[hg5];rfl) Z Z
   refine qm Z<|gp 4 27 (.b ((((a0.Loan==0)&&(a0.Rate==0))&&(a0.Fee==0))&&(a0.Ago==0))) 23 Z Z (fun hg6=>?_) (fun hg6=>?_) ?_
   ·exact gT Z hg6<|A0 (C1 Z) Z<|gT Z hg6<|A0 (B5 Z Z Z) Z<|gT Z hg6<|A0 (K0 Z Z) Z<|A0 (D1 Z hg6 Z) Z<|ge 4 (by rw[hg6];rfl) Z Z
   ·exact nT Z hg6 Z<|nT Z hg6 Z<|nT Z hg6 Z<|A0 (D0 Z hg6 Z) Z<|ge 4 (by rw[hg6];rfl) Z Z
   refine qm Z<|gp 4 32 (.b (((((a0.Loan==0)&&(a0.Rate==0))&&(a0.Fee==0))&&(a0.Ago==0))&&(a0.Last==0))) 28 Z Z (fun hg7=>?_) (fun hg7=>?_) ?_
   ·exact gT Z hg7<|A0 (C1 Z) Z<|gT Z hg7<|A0 (B5 Z Z Z) Z<|gT Z hg7<|A0 (K0 Z Z) Z<|A0 (D1 Z hg7 Z) Z<|ge 4 (by rw[hg7];rfl) Z Z
   ·exact nT Z hg7 Z<|nT Z hg7 Z<|nT Z hg7 Z<|A0 (D0 Z hg7 Z) Z<|ge 4 (by rw[hg7];rfl) Z Z
   refine qm Z<|es (ra1 Z)<|C7 ?_
   obtain rfl:=os h
   exact retq trivial (A7 Z C0) (A4 Z B9) (A2 A5 A8)
  ·refine C6<|s0<|oB h fun x8 hx8 h=>oB h fun x11 hx11 h=>oB h fun x14 hx14 h=>oB h fun x17 hx17 h=>oB h fun x20 hx20 h=>A0 (C1 Z) Z<|A0 (B5 Z Z Z) Z<|C3 (rs:=[.b x8]) Z Z (A3 Z (A3 Z (A3 Z C2))) ((O4 hx8).frz)<|qm Z<|gp 4 40 (.b x11) 36 Z Z (fun hg9=>?_) (fun hg9=>?_) ?_
   ·refine oB (bt hx11 hg9) fun x10 hx10 hx11=>?_
    obtain rfl:=os hx11
    exact gT Z hg9<|A0 (C1 Z) Z<|gT Z hg9<|A0 (B5 Z Z Z) Z<|gT Z hg9<|C3 (rs:=[.b x10]) Z Z (A3 Z (A3 Z (A3 Z C2))) ((O4 hx10).frz)<|A0 (D1 Z hg9 Z) Z<|ge 4 Z Z Z
   ·obtain rfl:=os (bf hx11 hg9)
    exact nT Z hg9 Z<|nT Z hg9 Z<|L7 (F4 Z (by rw[hg9];rfl)) Z<|A0 (D0 Z hg9 Z) Z<|ge 4 Z Z Z
   refine qm Z<|gp 4 45 (.b x14) 41 Z Z (fun hg12=>?_) (fun hg12=>?_) ?_
   ·refine oB (bt hx14 hg12) fun x13 hx13 hx14=>?_
    obtain rfl:=os hx14
    exact gT Z hg12<|A0 (C1 Z) Z<|gT Z hg12<|A0 (B5 Z Z Z) Z<|gT Z hg12<|C3 (rs:=[.b x13]) Z Z (A3 Z (A3 Z (A3 Z C2))) ((O4 hx13).frz)<|A0 (D1 Z hg12 Z) Z<|ge 4 Z Z Z
   ·obtain rfl:=os (bf hx14 hg12)
    exact nT Z hg12 Z<|nT Z hg12 Z<|L7 (F4 Z (by rw[hg12];rfl)) Z<|A0 (D0 Z hg12 Z) Z<|ge 4 Z Z Z
   refine qm Z<|gp 4 50 (.b x17) 46 Z Z (fun hg15=>?_) (fun hg15=>?_) ?_
   ·refine oB (bt hx17 hg15) fun x16 hx16 hx17=>?_
    obtain rfl:=os hx17
    exact gT Z hg15<|A0 (C1 Z) Z<|gT Z hg15<|A0 (B5 Z Z Z) Z<|gT Z hg15<|C3 (rs:=[.b x16]) Z Z (A3 Z (A3 Z (A3 Z C2))) ((O4 hx16).frz)<|A0 (D1 Z hg15 Z) Z<|ge 4 Z Z Z
   ·obtain rfl:=os (bf hx17 hg15)
    exact nT Z hg15 Z<|nT Z hg15 Z<|L7 (F4 Z (by rw[hg15];rfl)) Z<|A0 (D0 Z hg15 Z) Z<|ge 4 Z Z Z
   refine qm Z<|gp 4 55 (.b x20) 51 Z Z (fun hg18=>?_) (fun hg18=>?_) ?_
   ·refine oB (bt hx20 hg18) fun x19 hx19 hx20=>?_
    obtain rfl:=os hx20
    exact gT Z hg18<|A0 (C1 Z) Z<|gT Z hg18<|A0 (B5 Z Z Z) Z<|gT Z hg18<|C3 (rs:=[.b x19]) Z Z (A3 Z (A3 Z (A3 Z C2))) ((O4 hx19).frz)<|A0 (D1 Z hg18 Z) Z<|ge 4 Z Z Z
   ·obtain rfl:=os (bf hx20 hg18)
    exact nT Z hg18 Z<|nT Z hg18 Z<|L7 (F4 Z (by rw[hg18];rfl)) Z<|A0 (D0 Z hg18 Z) Z<|ge 4 Z Z Z
   refine qm Z<|es (ra1 Z)<|C7 ?_
   obtain rfl:=os h
   exact retq trivial (A7 Z C0) (A4 Z B9) (A2 A5 A8)
def A0b (a0:PaShow) (s2:(Int×(List ByteArray))):Option ((Int×(List ByteArray))⊕((Int×Int×Int)⊕(List ByteArray))) :=
 if (decide (s2.1<(Zh a0.Gowns:Int)))=true then
  (idx a0.Gowns s2.1).bind fun x5 =>
  (A4b x5.Name s2.2).bind fun x6 =>
  (idx a0.Gowns s2.1).bind fun x7 =>
  (app 16 s2.2 [x7.Name]).bind fun x8 =>
  (if (x6==0)=true then
  (idx a0.Gowns s2.1).bind fun x10 =>
  (A4z x10).bind fun x11 =>
  some (!x11)
  else
  some false).bind fun x12 =>
  if x12=true then
  some (.inr (.inl (1,s2.1,7)))
  else
  if (x6 != 0)=true then
   some (.inr (.inl (1,s2.1,x6)))
  else
   some (.inl ((w64 (s2.1+1)),x8))
 else
  some (.inr (.inr s2.2))
def A0c (a0:PaShow) (s18:(Int×(List ByteArray))):Option ((Int×(List ByteArray))⊕((Int×Int×Int)⊕(List ByteArray))) :=
 if (decide (s18.1<(Zh a0.Figures:Int)))=true then
  (idx a0.Figures s18.1).bind fun x21 =>
  (A4b x21.Name s18.2).bind fun x22 =>
  (idx a0.Figures s18.1).bind fun x23 =>
  (app 16 s18.2 [x23.Name]).bind fun x24 =>
  if (x22==0)=true then
  (idx a0.Figures s18.1).bind fun x26 =>
  (A2c x26).bind fun x27 =>
  if (x27 != 0)=true then
   some (.inr (.inl (2,s18.1,x27)))
  else
   some (.inl ((w64 (s18.1+1)),x24))
  else
  if (x22 != 0)=true then
   some (.inr (.inl (2,s18.1,x22)))
  else
   some (.inl ((w64 (s18.1+1)),x24))
 else
  some (.inr (.inr s18.2))
def A0d (a0:PaShow) (s35:Int):Option (Int⊕((Int×Int×Int)⊕Unit)) :=
 if (decide (s35<(Zh a0.Incomes:Int)))=true then
  (idx a0.Incomes s35).bind fun x38 =>
  (R2 x38.Day 0 364).bind fun x39 =>
  (if (!x39)=true then
  some true
  else
  (idx a0.Incomes s35).bind fun x41 =>
  (R2 x41.Pence 0 10000).bind fun x42 =>
  some (!x42)).bind fun x43 =>
  if x43=true then
  some (.inr (.inl (4,s35,7)))
  else
  some (.inl (w64 (s35+1)))
 else
  some (.inr (.inr ()))
def A3i (a0:PaShow):Option (Int×Int×Int) :=
 if (decide ((Zh a0.Gowns:Int)>5))=true then
  some (1,0,3)
 else
  (loop (A0b a0) (0,([]:List ByteArray))).bind fun (o15:((Int×Int×Int)⊕(List ByteArray))) =>
  match o15 with
  | (.inl vo15_0) =>
  some vo15_0
  | (.inr vo15_1) =>
  if (decide ((Zh a0.Figures:Int)>3))=true then
   some (2,0,3)
  else
   (loop (A0c a0) (0,([]:List ByteArray))).bind fun (o30:((Int×Int×Int)⊕(List ByteArray))) =>
   match o30 with
   | (.inl vo30_0) =>
   some vo30_0
   | (.inr vo30_1) =>
   (R2 a0.Purse 0 10000).bind fun x32 =>
   if (!x32)=true then
    some (3,0,7)
   else
    if (decide ((Zh a0.Incomes:Int)>3))=true then
    some (4,0,3)
    else
    (loop (A0d a0) 0).bind fun (o45:((Int×Int×Int)⊕Unit)) =>
    match o45 with
    | (.inl vo45_0) =>
     some vo45_0
    | (.inr vo45_1) =>
     some (0,0,0)
theorem B7s {c:Sc} {H:A1} {a0:PaShow} {r:(Int×Int×Int)} (h:A3i a0=some r) :
  E7 tab c H (.fn (.func 36) [] []) [(.agg (B6 a0))] [.i r.1,.i r.2.1,.i r.2.2]:= by
 unfold A3i at h
 refine cE Z Z<|sg 0 Z<|A0 (F6 (cs:=B6 a0) Z Z Z) Z<|qm Z<|qm Z<|qm Z<|es (ra1 Z)<|C4<|s0<|A0 (C1 Z) Z<|A0 (B5 Z Z Z) Z<|A0 (I0 (f:=B2) Z) Z<|A0 (A3b Z Z) Z<|es (ra2 Z Z)<|wi h Z (fun hc1 h=>?_) fun hc1 h=>?_
 ·refine s0<|qm Z<|qm Z<|qm Z<|es (ra3 Z Z Z)<|C7 ?_
  obtain rfl:=os h
  exact retq trivial (A7 Z (A7 Z (A7 Z C0))) (A4 Z (A4 Z (A4 Z B9))) (A2 A5 (A2 A5 (A2 A5 A8)))
 ·refine C6<|sg 1 Z<|A0 A7p Z<|es (ra2 Z Z)<|C4<|s0<|qm Z<|es (ra3 Z Z Z)<|C8<|oB h fun o15 ho15 h=>wl (fun s2=>[(1,(.ptr (H.length+0) 0)),(5,(.asl (H.length+1) (Zh s2.2))),(6,.i s2.1)]) (fun (q3:Bool) s2=>[(.cells (B6 a0)),(.arr 1 q3 (Zd cS s2.2))]) 2 (fun r e s' H'=>(match r with|(.inl v)=>e=.ret∧RetQ H [.tmp 2,.tmp 3,.tmp 4] [.i v.1,.i v.2.1,.i v.2.2] e s' H' | (.inr v)=>e=(.exit 0)∧s'=[(1,(.ptr (H.length+0) 0))]∧∃ (q0q:Bool),H'=(H++[(.cells (B6 a0)),(.arr 1 q0q (Zd cS v))]):Prop)) false ho15 Z Z (fun _ _=>rfl) (fun _=>rfl) Z (fun s2=>(bdc (N6 Z) (bdc (A3l Z) (bdc A5 bdn)))) (fun q3 s2 ys2 hs2=>?_) ?_
  ·unfold A0b at hs2
   refine C4<|s0<|qm Z<|A0 (C1 Z) Z<|A0 (B5 Z Z Z) Z<|A0 (I0 (f:=B2) Z) Z<|A0 (L5 Z Z) Z<|es (ra4 Z Z Z Z)<|wi hs2 Z (fun hc4 hs2=>?_) fun hc4 hs2=>?_
   ·refine C6<|C4<|C8<|s0<|oB hs2 fun x5 hx5 hs2=>oB hs2 fun x6 hx6 hs2=>A0 (C1 Z) Z<|A0 (B5 Z Z Z) Z<|qm Z<|A0 (H7 (f:=B2) Z Z hx5) Z<|A0 (A9y (ds:=(B2 x5)) Z Z) Z<|A0 (V8 Z Z) Z<|qm Z<|C3 (rs:=[.i x6]) Z Z (A3 Z (A3 (C1o Z (Zi _)) C2)) ((B1y hx6).frz)<|qm Z<|es (ra4 Z Z Z Z)<|s0<|oB hs2 fun x7 hx7 hs2=>oB hs2 fun x8 hx8 hs2=>qm Z<|A0 (C1 Z) Z<|A0 (B5 Z Z Z) Z<|qm Z<|A0 (H7 (f:=B2) Z Z hx7) Z<|A0 (A9y (ds:=(B2 x7)) Z Z) Z<|A0 (V8 Z Z) Z<|A0 (I8 (rows:=Zd cS [x7.Name]) Z Z (D9 (fun _=>rfl) _)) Z<|N9 (A16 (f:=cS) Z Z Z Z A1k (fun _=>rfl) hx8) Z<|qm Z<|es (ra4 Z Z Z Z)<|C4<|s0<|oB hs2 fun x12 hx12 hs2=>qm Z<|A0 (K0 Z Z) Z<|qm Z<|gp 8 49 (.b x12) 41 Z Z (fun hg9=>?_) (fun hg9=>?_) ?_
    ·refine oB (bt hx12 hg9) fun x10 hx10 hx12=>oB hx12 fun x11 hx11 hx12=>?_
     obtain rfl:=os hx12
     exact gT Z hg9<|A0 (C1 Z) Z<|gT Z hg9<|A0 (B5 Z Z Z) Z<|gT Z hg9<|qm Z<|gT Z hg9<|A0 (H7 (f:=B2) Z Z hx10) Z<|gT Z hg9<|A0 (I1 Z Z) Z<|gT Z hg9<|C3 (rs:=[.b x11]) Z Z (A3 (E1 Z) C2) ((B9b hx11).frz)<|gT Z hg9<|A0 (Y9 Z) Z<|A0 (D1 Z hg9 Z) Z<|ge 8 Z Z Z
    ·obtain rfl:=os (bf hx12 hg9)
     exact nT Z hg9 Z<|nT Z hg9 Z<|nT Z hg9 Z<|nT Z hg9 Z<|nT Z hg9 Z<|L7 (F4 Z (by rw[hg9];rfl)) Z<|nT Z hg9 Z<|A0 (D0 Z hg9 Z) Z<|ge 8 Z Z Z
    refine es (ra5 Z Z Z Z Z)<|wi hs2 Z (fun hc13 hs2=>?_) fun hc13 hs2=>?_
    ·refine r0<|qm Z<|en (ra4 Z Z Z Z)<|s0<|qm Z<|A0 (T6 (v:=(.b true)) Z Z Z) Z<|es (ra5 Z Z Z Z Z)<|O1 Z Z<|s0<|qm Z<|qm Z<|qm Z<|qm Z<|qm Z<|es (ra3 Z Z Z)<|C7 ?_
     obtain rfl:=os hs2
     exact lx Z (ZO Z (retq trivial (A7 Z (A7 Z (A7 Z C0))) (A4 Z (A4 Z (A4 Z B9))) (A2 A5 (A2 A5 (A2 A5 A8))))) (Sub.refl _)
    ·refine C6<|s0<|qm Z<|A0 (Q9 Z Z) Z<|es (ra5 Z Z Z Z Z)<|wi hs2 Z (fun hc14 hs2=>?_) fun hc14 hs2=>?_
     ·refine s0<|qm Z<|qm Z<|qm Z<|qm Z<|qm Z<|es (ra3 Z Z Z)<|C7 ?_
      obtain rfl:=os hs2
      exact lx Z (ZO Z (retq trivial (A7 Z (A7 Z (A7 Z C0))) (A4 Z (A4 Z (A4 Z B9))) (A2 A5 (A2 A5 (A2 A5 A8))))) (Sub.refl _)
     ·refine C6<|r0<|qm Z<|A0 (G1 Z Z) Z<|qm Z<|en (ra3 Z Z Z) ?_
      cases hs2
      exact lnT true Z (su3 Z Z Z)
   ·refine J1 ?_
    obtain rfl:=os hs2
    exact lx Z (ZO Z (ZO Z ⟨q3,Z⟩)) (su1 Z)
  ·rcases o15 with vo15_0|vo15_1
   ·rintro e s' H'-⟨rfl,hret⟩
    cases h
    exact hret
   ·rintro e s' H'-⟨rfl,rfl,q16,rfl⟩
    refine C4<|s0<|A0 (C1 Z) Z<|A0 (B5 Z Z Z) Z<|A0 (I0 (f:=A6) Z) Z<|A0 (A3b Z Z) Z<|es (ra2 Z Z)<|wi h Z (fun hc17 h=>?_) fun hc17 h=>?_
    ·refine s0<|qm Z<|qm Z<|qm Z<|es (ra3 Z Z Z)<|C7 ?_
     obtain rfl:=os h
     exact retq trivial (A7 Z (A7 Z (A7 Z C0))) (A4 Z (A4 Z (A4 Z B9))) (A2 A5 (A2 A5 (A2 A5 A8)))
    ·refine C6<|sg 2 Z<|A0 A7p Z<|es (ra2 Z Z)<|C4<|s0<|qm Z<|es (ra3 Z Z Z)<|C8<|oB h fun o30 ho30 h=>wl (fun s18=>[(1,(.ptr (H.length+0) 0)),(5,(.asl (H.length+2) (Zh s18.2))),(8,.i s18.1)]) (fun (q19:Bool) s18=>[(.cells (B6 a0)),(.arr 1 q16 (Zd cS vo15_1)),(.arr 1 q19 (Zd cS s18.2))]) 3 (fun r e s' H'=>(match r with|(.inl v)=>e=.ret∧RetQ H [.tmp 2,.tmp 3,.tmp 4] [.i v.1,.i v.2.1,.i v.2.2] e s' H' | (.inr v)=>e=(.exit 2)∧s'=[(1,(.ptr (H.length+0) 0))]∧∃ (q0q:Bool),H'=(H++[(.cells (B6 a0)),(.arr 1 q16 (Zd cS vo15_1)),(.arr 1 q0q (Zd cS v))]):Prop)) false ho30 Z Z (fun _ _=>rfl) (fun _=>rfl) Z (fun s18=>(bdc (N6 Z) (bdc (A3l Z) (bdc A5 bdn)))) (fun q19 s18 ys18 hs18=>?_) ?_
     ·unfold A0c at hs18
      refine C4<|s0<|qm Z<|A0 (C1 Z) Z<|A0 (B5 Z Z Z) Z<|A0 (I0 (f:=A6) Z) Z<|A0 (L5 Z Z) Z<|es (ra4 Z Z Z Z)<|wi hs18 Z (fun hc20 hs18=>?_) fun hc20 hs18=>?_
      ·refine C6<|C4<|C8<|s0<|oB hs18 fun x21 hx21 hs18=>oB hs18 fun x22 hx22 hs18=>A0 (C1 Z) Z<|A0 (B5 Z Z Z) Z<|qm Z<|A0 (H7 (f:=A6) Z Z hx21) Z<|A0 (A9y (ds:=(A6 x21)) Z Z) Z<|A0 (V8 Z Z) Z<|qm Z<|C3 (rs:=[.i x22]) Z Z (A3 Z (A3 (C1o Z (Zi _)) C2)) ((B1y hx22).frz)<|qm Z<|es (ra4 Z Z Z Z)<|s0<|oB hs18 fun x23 hx23 hs18=>oB hs18 fun x24 hx24 hs18=>qm Z<|A0 (C1 Z) Z<|A0 (B5 Z Z Z) Z<|qm Z<|A0 (H7 (f:=A6) Z Z hx23) Z<|A0 (A9y (ds:=(A6 x23)) Z Z) Z<|A0 (V8 Z Z) Z<|A0 (I8 (rows:=Zd cS [x23.Name]) Z Z (D9 (fun _=>rfl) _)) Z<|N9 (A16 (f:=cS) Z Z Z Z A1k (fun _=>rfl) hx24) Z<|qm Z<|es (ra4 Z Z Z Z)<|C4<|s0<|qm Z<|A0 (K0 Z Z) Z<|es (ra5 Z Z Z Z Z)<|wi hs18 Z (fun hc25 hs18=>?_) fun hc25 hs18=>?_
       ·refine r0<|oB hs18 fun x26 hx26 hs18=>oB hs18 fun x27 hx27 hs18=>A0 (C1 Z) Z<|A0 (B5 Z Z Z) Z<|qm Z<|A0 (H7 (f:=A6) Z Z hx26) Z<|A0 (I1 Z Z) Z<|C3 (rs:=[.i x27]) Z Z (A3 (E1 Z) C2) ((B5g hx27).frz)<|qm Z<|en (ra4 Z Z Z Z)<|s0<|qm Z<|A0 (Q9 Z Z) Z<|es (ra5 Z Z Z Z Z)<|wi hs18 Z (fun hc28 hs18=>?_) fun hc28 hs18=>?_
        ·refine s0<|qm Z<|qm Z<|qm Z<|qm Z<|qm Z<|es (ra3 Z Z Z)<|C7 ?_
         obtain rfl:=os hs18
         exact lx Z (ZO Z (retq trivial (A7 Z (A7 Z (A7 Z C0))) (A4 Z (A4 Z (A4 Z B9))) (A2 A5 (A2 A5 (A2 A5 A8))))) (Sub.refl _)
        ·refine C6<|r0<|qm Z<|A0 (G1 Z Z) Z<|qm Z<|en (ra3 Z Z Z) ?_
         cases hs18
         exact lnT true Z (su3 Z Z Z)
       ·refine C6<|s0<|qm Z<|A0 (Q9 Z Z) Z<|es (ra5 Z Z Z Z Z)<|wi hs18 Z (fun hc29 hs18=>?_) fun hc29 hs18=>?_
        ·refine s0<|qm Z<|qm Z<|qm Z<|qm Z<|qm Z<|es (ra3 Z Z Z)<|C7 ?_
         obtain rfl:=os hs18
         exact lx Z (ZO Z (retq trivial (A7 Z (A7 Z (A7 Z C0))) (A4 Z (A4 Z (A4 Z B9))) (A2 A5 (A2 A5 (A2 A5 A8))))) (Sub.refl _)
        ·refine C6<|r0<|qm Z<|A0 (G1 Z Z) Z<|qm Z<|en (ra3 Z Z Z) ?_
         cases hs18
         exact lnT true Z (su3 Z Z Z)
      ·refine J1 ?_
       obtain rfl:=os hs18
       exact lx Z (ZO Z (ZO Z ⟨q19,Z⟩)) (su1 Z)
     ·rcases o30 with vo30_0|vo30_1
      ·rintro e s' H'-⟨rfl,hret⟩
       cases h
       exact hret
      ·rintro e s' H'-⟨rfl,rfl,q31,rfl⟩
       refine C4<|s0<|oB h fun x32 hx32 h=>A0 (C1 Z) Z<|A0 (B5 Z Z Z) Z<|C3 (rs:=[.b x32]) Z Z (A3 Z (A3 Z (A3 Z C2))) ((O4 hx32).frz)<|A0 (Y9 Z) Z<|es (ra2 Z Z)<|wi h Z (fun hc33 h=>?_) fun hc33 h=>?_
       ·refine s0<|qm Z<|qm Z<|qm Z<|es (ra3 Z Z Z)<|C7 ?_
        obtain rfl:=os h
        exact retq trivial (A7 Z (A7 Z (A7 Z C0))) (A4 Z (A4 Z (A4 Z B9))) (A2 A5 (A2 A5 (A2 A5 A8)))
       ·refine C6<|C4<|s0<|A0 (C1 Z) Z<|A0 (B5 Z Z Z) Z<|A0 (I0 (f:=B1) Z) Z<|A0 (A3b Z Z) Z<|es (ra2 Z Z)<|wi h Z (fun hc34 h=>?_) fun hc34 h=>?_
        ·refine s0<|qm Z<|qm Z<|qm Z<|es (ra3 Z Z Z)<|C7 ?_
         obtain rfl:=os h
         exact retq trivial (A7 Z (A7 Z (A7 Z C0))) (A4 Z (A4 Z (A4 Z B9))) (A2 A5 (A2 A5 (A2 A5 A8)))
        ·refine C6<|C4<|s0<|qm Z<|es (ra2 Z Z)<|C8<|oB h fun o45 ho45 h=>wl (fun s35=>[(1,(.ptr (H.length+0) 0)),(10,.i s35)]) (fun (q36:Unit) s35=>[(.cells (B6 a0)),(.arr 1 q16 (Zd cS vo15_1)),(.arr 1 q31 (Zd cS vo30_1))]) 3 (fun r e s' H'=>(match r with|(.inl v)=>e=.ret∧RetQ H [.tmp 2,.tmp 3,.tmp 4] [.i v.1,.i v.2.1,.i v.2.2] e s' H' | (.inr v)=>PX 4 [] (H++[(.cells (B6 a0)),(.arr 1 q16 (Zd cS vo15_1)),(.arr 1 q31 (Zd cS vo30_1))]) e s' H':Prop)) () ho45 Z Z (fun _ _=>rfl) (fun _=>rfl) Z (fun s35=>(bdc (N6 Z) (bdc A5 bdn))) (fun q36 s35 ys35 hs35=>?_) ?_
         ·unfold A0d at hs35
          refine C4<|s0<|qm Z<|A0 (C1 Z) Z<|A0 (B5 Z Z Z) Z<|A0 (I0 (f:=B1) Z) Z<|A0 (L5 Z Z) Z<|es (ra3 Z Z Z)<|wi hs35 Z (fun hc37 hs35=>?_) fun hc37 hs35=>?_
          ·refine C6<|C4<|C8<|s0<|oB hs35 fun x38 hx38 hs35=>oB hs35 fun x39 hx39 hs35=>oB hs35 fun x43 hx43 hs35=>A0 (C1 Z) Z<|A0 (B5 Z Z Z) Z<|qm Z<|A0 (H7 (f:=B1) Z Z hx38) Z<|A0 (A9y (ds:=(B1 x38)) Z Z) Z<|A0 (V8 Z Z) Z<|C3 (rs:=[.b x39]) Z Z (A3 Z (A3 Z (A3 Z C2))) ((O4 hx39).frz)<|A0 (Y9 Z) Z<|qm Z<|gp 9 126 (.b x43) 117 Z Z (fun hg40=>?_) (fun hg40=>?_) ?_
           ·obtain rfl:=os (bt hx43 hg40)
            exact nF Z hg40 Z<|nF Z hg40 Z<|nF Z hg40 Z<|nF Z hg40 Z<|nF Z hg40 Z<|nF Z hg40 Z<|L7 (F4 Z (by rw[hg40];rfl)) Z<|nF Z hg40 Z<|A0 (D1 Z hg40 Z) Z<|ge 9 Z Z Z
           ·refine oB (bf hx43 hg40) fun x41 hx41 hx43=>oB hx43 fun x42 hx42 hx43=>?_
            obtain rfl:=os hx43
            exact gF Z hg40<|A0 (C1 Z) Z<|gF Z hg40<|A0 (B5 Z Z Z) Z<|gF Z hg40<|qm Z<|gF Z hg40<|A0 (H7 (f:=B1) Z Z hx41) Z<|gF Z hg40<|A0 (A9y (ds:=(List.drop 1 (B1 x41))) Z Z) Z<|gF Z hg40<|A0 (V8 Z Z) Z<|gF Z hg40<|C3 (rs:=[.b x42]) Z Z (A3 Z (A3 Z (A3 Z C2))) ((O4 hx42).frz)<|gF Z hg40<|A0 (Y9 Z) Z<|A0 (D0 Z hg40 Z) Z<|ge 9 Z Z Z
           refine es (ra3 Z Z Z)<|wi hs35 Z (fun hc44 hs35=>?_) fun hc44 hs35=>?_
           ·refine s0<|qm Z<|qm Z<|qm Z<|qm Z<|es (ra3 Z Z Z)<|C7 ?_
            obtain rfl:=os hs35
            exact lx Z (ZO Z (retq trivial (A7 Z (A7 Z (A7 Z C0))) (A4 Z (A4 Z (A4 Z B9))) (A2 A5 (A2 A5 (A2 A5 A8))))) (Sub.refl _)
           ·refine C6<|r0<|qm Z<|A0 (G1 Z Z) Z<|qm Z<|en (ra2 Z Z) ?_
            cases hs35
            exact lnT () Z (su2 Z Z)
          ·refine J1 ?_
           obtain rfl:=os hs35
           exact lx Z px (.nil _)
         ·rcases o45 with vo45_0|vo45_1
          ·rintro e s' H'-⟨rfl,hret⟩
           cases h
           exact hret
          ·rintro e s' H'-⟨rfl,rfl,rfl⟩
           refine s0<|qm Z<|qm Z<|qm Z<|es (ra3 Z Z Z)<|C7 ?_
           obtain rfl:=os h
           exact retq trivial (A7 Z (A7 Z (A7 Z C0))) (A4 Z (A4 Z (A4 Z B9))) (A2 A5 (A2 A5 (A2 A5 A8)))
def A0j (a0:PaGown):Option ByteArray :=
 some a0.Name
theorem B49 {c:Sc} {H:A1} {a0:PaGown} {r:ByteArray} (h:A0j a0=some r) :
  E7 tab c H (.fn (.func 65) [] []) [(.agg (B2 a0))] [.s r]:= by
 unfold A0j at h
 refine cE Z Z<|sg 0 Z<|A0 (F6 (cs:=B2 a0) Z Z Z) Z<|qm Z<|es (ra1 Z)<|s0<|A0 (C1 Z) Z<|A0 (B5 Z Z Z) Z<|qm Z<|es (ra1 Z)<|C7 ?_
 obtain rfl:=os h
 exact retq trivial (A7 Z C0) (A4 Z B9) (A2 A5 A8)
def A0k (a0:PaFigure):Option ByteArray :=
 some a0.Name
theorem B5a {c:Sc} {H:A1} {a0:PaFigure} {r:ByteArray} (h:A0k a0=some r) :
  E7 tab c H (.fn (.func 68) [] []) [(.agg (A6 a0))] [.s r]:= by
 unfold A0k at h
 refine cE Z Z<|sg 0 Z<|A0 (F6 (cs:=A6 a0) Z Z Z) Z<|qm Z<|es (ra1 Z)<|s0<|A0 (C1 Z) Z<|A0 (B5 Z Z Z) Z<|qm Z<|es (ra1 Z)<|C7 ?_
 obtain rfl:=os h
 exact retq trivial (A7 Z C0) (A4 Z B9) (A2 A5 A8)
def A02 (a0:ByteArray) (s1:Nat):Option (Nat⊕(Bool⊕Nat)) :=
 if (decide (s1<ByteArray.size a0))=true then
  if ((!((decide (97≤((Utf8.decode a0 s1).1:Int)))&&(decide (((Utf8.decode a0 s1).1:Int)≤122))))&&(((s1:Int)==0)||((((Utf8.decode a0 s1).1:Int) != 46)&&((decide (((Utf8.decode a0 s1).1:Int)<48))||(decide (((Utf8.decode a0 s1).1:Int)>57))))))=true then
  some (.inr (.inl false))
  else
  some (.inl (s1+(Utf8.decode a0 s1).2))
 else
  some (.inr (.inr s1))
def A2p (a0:ByteArray):Option Bool :=
 (loop (A02 a0) (0:Nat)).bind fun (o10:(Bool⊕Nat)) =>
 match o10 with
 | (.inl vo10_0) =>
  some vo10_0
 | (.inr vo10_1) =>
  some ((!eqS a0 (ByteArray.mk #[]))&&(decide ((ByteArray.size a0:Int)≤16)))
theorem A91 {c:Sc} {H:A1} {a0:ByteArray} {r:Bool} (h:A2p a0=some r) :
  E7 tab c H (.fn (.func 79) [] []) [.s a0] [.b r]:= by
 unfold A2p at h
 refine cE Z Z<|s0<|qm Z<|es (ra1 Z)<|C4<|sg 0 Z<|qm Z<|A0 (D45 Z) Z<|es (ra2 Z Z)<|C8<|oB h fun o10 ho10 h=>wl (fun s1=>[(0,.s a0),(7,(.itr (H.length+0)))]) (fun (q2:Unit) s1=>[.iter a0 s1]) 1 (fun r e s' H'=>(match r with|(.inl v)=>e=.ret∧RetQ H [.tmp 2] [.b v] e s' H' | (.inr v)=>PX 0 [(0,.s a0)] (H++[.iter a0 v]) e s' H':Prop)) () ho10 Z Z (fun _ _=>rfl) (fun _=>rfl) Z (fun s1=>(bdc A5 (bdc (D6c Z) bdn))) (fun q2 s1 ys1 hs1=>?_) ?_
 ·unfold A02 at hs1
  by_cases hc3:(decide (s1<ByteArray.size a0))=true
  ·rw[if_pos hc3]at hs1
   refine s0<|N9 (D44 Z Z (of_decide_eq_true hc3)) Z<|A0 (B4 Z Z) Z<|es (ra4 Z Z Z Z)<|C4<|O1 Z Z<|C6<|C8<|s0<|A0 (B4 Z Z) Z<|A0 (B4 Z Z) Z<|qm Z<|qm Z<|es (ra4 Z Z Z Z)<|s0<|qm Z<|A0 (A4f Z Z) Z<|qm Z<|gp 3 17 (.b ((decide (97≤((Utf8.decode a0 s1).1:Int)))&&(decide (((Utf8.decode a0 s1).1:Int)≤122)))) 14 Z Z (fun hg4=>?_) (fun hg4=>?_) ?_
   ·exact gT Z hg4<|qm Z<|gT Z hg4<|A0 (A4f Z Z) Z<|A0 (D1 Z hg4 Z) Z<|ge 3 (by rw[hg4];rfl) Z Z
   ·exact nT Z hg4 Z<|nT Z hg4 Z<|A0 (D0 Z hg4 Z) Z<|ge 3 (by rw[hg4];rfl) Z Z
   refine qm Z<|es (ra5 Z Z Z Z Z)<|s0<|qm Z<|A0 (Y9 Z) Z<|qm Z<|gp 15 35 (.b ((!((decide (97≤((Utf8.decode a0 s1).1:Int)))&&(decide (((Utf8.decode a0 s1).1:Int)≤122))))&&(((s1:Int)==0)||((((Utf8.decode a0 s1).1:Int) != 46)&&((decide (((Utf8.decode a0 s1).1:Int)<48))||(decide (((Utf8.decode a0 s1).1:Int)>57))))))) 20 Z Z (fun hg5=>?_) (fun hg5=>?_) ?_
   ·refine gT Z hg5<|qm Z<|gT Z hg5<|A0 (K0 Z Z) Z<|gT Z hg5<|qm Z<|gq 11 34 (.b (((s1:Int)==0)||((((Utf8.decode a0 s1).1:Int) != 46)&&((decide (((Utf8.decode a0 s1).1:Int)<48))||(decide (((Utf8.decode a0 s1).1:Int)>57)))))) 23 Z Z (fun hg6=>?_) (fun hg6=>?_) ?_
    ·exact nF Z hg6 Z<|nF Z hg6 Z<|nF Z hg6 Z<|nX Z Z<|nX Z Z<|nX Z Z<|nX Z Z<|nX Z Z<|nX Z Z<|nF Z hg6 Z<|gT Z hg5<|A0 (D1 Z hg6 Z) Z<|ge 11 (by rw[hg6];rfl) Z Z
    ·refine gF Z hg6<|qm Z<|gF Z hg6<|A0 (Q9 Z Z) Z<|gF Z hg6<|qm Z<|gq 7 33 (.b ((((Utf8.decode a0 s1).1:Int) != 46)&&((decide (((Utf8.decode a0 s1).1:Int)<48))||(decide (((Utf8.decode a0 s1).1:Int)>57))))) 26 Z Z (fun hg7=>?_) (fun hg7=>?_) ?_
     ·refine gT Z hg7<|qm Z<|gT Z hg7<|A0 (L5 Z Z) Z<|gT Z hg7<|qm Z<|gq 3 32 (.b ((decide (((Utf8.decode a0 s1).1:Int)<48))||(decide (((Utf8.decode a0 s1).1:Int)>57)))) 29 Z Z (fun hg8=>?_) (fun hg8=>?_) ?_
      ·exact nF Z hg8 Z<|nF Z hg8 Z<|gT Z hg7<|A0 (D1 Z hg8 Z) Z<|ge 3 (by rw[hg8];rfl) Z Z
      ·exact gF Z hg8<|qm Z<|gF Z hg8<|A0 (A3b Z Z) Z<|gT Z hg7<|A0 (D0 Z hg8 Z) Z<|ge 3 (by rw[hg8];rfl) Z Z
      exact gF Z hg6<|A0 (D1 Z hg7 Z) Z<|ge 5 (by rw[hg7];rfl) Z Z
     ·exact nT Z hg7 Z<|nT Z hg7 Z<|nT Z hg7 Z<|nX Z Z<|nX Z Z<|nT Z hg7 Z<|gF Z hg6<|A0 (D0 Z hg7 Z) Z<|ge 7 (by rw[hg7];rfl) Z Z
     exact gT Z hg5<|A0 (D0 Z hg6 Z) Z<|ge 5 (by rw[hg6];rfl) Z Z
    exact A0 (D1 Z hg5 Z) Z<|ge 5 (by rw[hg5];rfl) Z Z
   ·exact nT Z hg5 Z<|nT Z hg5 Z<|nT Z hg5 Z<|nX Z Z<|nX Z Z<|nX Z Z<|nX Z Z<|nX Z Z<|nX Z Z<|nX Z Z<|nX Z Z<|nX Z Z<|nX Z Z<|nT Z hg5 Z<|A0 (D0 Z hg5 Z) Z<|ge 15 (by rw[hg5];rfl) Z Z
   refine es (ra3 Z Z Z)<|wi hs1 Z (fun hc9 hs1=>?_) fun hc9 hs1=>?_
   ·refine s0<|qm Z<|es (ra1 Z)<|C7 ?_
    obtain rfl:=os hs1
    exact lx Z (ZO Z (retq trivial (A7 Z C0) (A4 Z B9) (A2 A5 A8))) (Sub.refl _)
   ·refine C6 ?_
    cases hs1
    exact lnT () Z (su2 Z Z)
  ·rw[if_neg hc3]at hs1
   refine s0<|N9 (D43 Z Z (fun hn=>hc3 (decide_eq_true hn))) Z<|A0 (B4 Z Z) Z<|es (ra4 Z Z Z Z)<|C4<|Q6 Z Z<|J1 ?_
   obtain rfl:=os hs1
   exact lx Z px (su1 Z)
 ·rcases o10 with vo10_0|vo10_1
  ·rintro e s' H'-⟨rfl,hret⟩
   cases h
   exact hret
  ·rintro e s' H'-⟨rfl,rfl,rfl⟩
   refine s0<|qm Z<|A0 (D8m Z Z) Z<|qm Z<|gp 4 42 (.b ((!eqS a0 (ByteArray.mk #[]))&&(decide ((ByteArray.size a0:Int)≤16)))) 38 Z Z (fun hg11=>?_) (fun hg11=>?_) ?_
   ·exact gT Z hg11<|qm Z<|gT Z hg11<|A0 (C17 Z) Z<|gT Z hg11<|A0 (A4f Z Z) Z<|A0 (D1 Z hg11 Z) Z<|ge 4 (by rw[hg11];rfl) Z Z
   ·exact nT Z hg11 Z<|nT Z hg11 Z<|nT Z hg11 Z<|A0 (D0 Z hg11 Z) Z<|ge 4 (by rw[hg11];rfl) Z Z
   refine qm Z<|es (ra1 Z)<|C7 ?_
   obtain rfl:=os h
   exact retq trivial (A7 Z C0) (A4 Z B9) (A2 A5 A8)
def M4 (a0:PaFigure) (g1:(PaFigure→Option ByteArray)) (a2:(List PaFigure)) (a3:Int):Option Bool :=
 (g1 a0).bind fun x1 =>
 (idx a2 a3).bind fun x2 =>
 (g1 x2).bind fun x3 =>
 some (eqS x1 x3)
theorem A3q {c:Sc} {H:A1} {a0:PaFigure} {g1:PaFigure→Option ByteArray} {g1_i:Nat} {g1_f g1_c:List AV} (g1_h:Impl tab H g1_i g1_f g1_c g1 (fun y=>[(.agg (A6 y))]) (fun y=>[.s y])) {b1:Nat} (hb1:hcells H b1=some [.fn (.func g1_i) g1_f g1_c]) {a2:(List PaFigure)} {b2:Nat} (hb2:hcells H b2=some ((cL 4 A6) a2)) {a3:Int} {b3:Nat} (hb3:hcells H b3=some (cI a3)) {r:Bool} (h:M4 a0 g1 a2 a3=some r) :
  E7 tab c H (.fn (.func 83) [] []) [(.agg (A6 a0)),.ptr b1 0,.ptr b2 0,.ptr b3 0] [.b r]:= by
 unfold M4 at h
 refine cE Z Z<|sg 0 Z<|A0 (F6 (cs:=A6 a0) Z Z Z) Z<|qm Z<|es (ra4 Z Z Z Z)<|s0<|oB h fun x1 hx1 h=>oB h fun x2 hx2 h=>oB h fun x3 hx3 h=>A0 (F1 (x:=(.fn (.func g1_i) g1_f g1_c)) Z hb1 Z) Z<|A0 (E8 Z Z Z) Z<|Z8 (rs:=[.s x1]) Z Z (B11 Z A4v) (A3 (E1 Z) C2) (Impl.callP g1_h hx1 _)<|A0 (F1 (x:=(.fn (.func g1_i) g1_f g1_c)) Z hb1 Z) Z<|A0 (F1 Z hb2 Z) Z<|A0 (F1 Z hb3 Z) Z<|A0 (H7 (f:=A6) Z Z hx2) Z<|A0 (I1 Z Z) Z<|C3 (rs:=[.s x3]) Z Z (A3 (E1 Z) C2) (Impl.call g1_h hx3 _)<|A0 (D0x Z Z) Z<|qm Z<|es (ra1 Z)<|C7 ?_
 obtain rfl:=os h
 exact retq trivial (A7 Z C0) (A4 Z B9) (A2 A5 A8)
def I9 (a0:(List PaFigure)) (g1:(PaFigure→Option Bool)) (s1:Int):Option (Int⊕(Int⊕Unit)) :=
 if (decide (s1<(Zh a0:Int)))=true then
  (idx a0 s1).bind fun x4 =>
  (g1 x4).bind fun x5 =>
  if x5=true then
  some (.inr (.inl s1))
  else
  some (.inl (w64 (s1+1)))
 else
  some (.inr (.inr ()))
def J9 (a0:(List PaFigure)) (g1:(PaFigure→Option Bool)):Option Int :=
 (loop (I9 a0 g1) 0).bind fun (o7:(Int⊕Unit)) =>
 match o7 with
 | (.inl vo7_0) =>
  some vo7_0
 | (.inr vo7_1) =>
  some (-1)
theorem V6 {c:Sc} {H:A1} {a0:(List PaFigure)} {g1:PaFigure→Option Bool} {g1_i:Nat} {g1_f g1_c:List AV} (g1_h:Impl tab H g1_i g1_f g1_c g1 (fun y=>[(.agg (A6 y))]) (fun y=>[.b y])) {r:Int} (h:J9 a0 g1=some r) :
  E7 tab c H (.fn (.func 98) [] []) [(.seq 4 (Zd A6 a0)),.fn (.func g1_i) g1_f g1_c] [.i r]:= by
 unfold J9 at h
 refine cE Z Z<|s0<|qm Z<|es (ra2 Z Z)<|C4<|s0<|qm Z<|A0 (I0 (f:=A6) Z) Z<|qm Z<|es (ra4 Z Z Z Z)<|C8<|oB h fun o7 ho7 h=>wl (fun s1=>[(0,(.seq 4 (Zd A6 a0))),(1,(.fn (.func g1_i) g1_f g1_c)),(7,(.i (Zh a0:Int))),(8,.i s1)]) (fun (q2:Unit) s1=>[]) 0 (fun r e s' H'=>(match r with|(.inl v)=>e=.ret∧RetQ H [.tmp 4] [.i v] e s' H' | (.inr v)=>PX 0 [] (H++[]) e s' H':Prop)) () ho7 Z Z (fun _ _=>rfl) (fun _=>rfl) Z (fun s1=>(bdc N7 (bdc (C26 g1_h.1) (bdc A5 (bdc A5 bdn))))) (fun q2 s1 ys1 hs1=>?_) ?_
 ·unfold I9 at hs1
  refine s0<|A0 (L5 Z Z) Z<|es (ra5 Z Z Z Z Z)<|C4<|wi hs1 Z (fun hc3 hs1=>?_) fun hc3 hs1=>?_
  ·refine C6<|C4<|C8<|s0<|qm Z<|qm Z<|es (ra5 Z Z Z Z Z)<|s0<|oB hs1 fun x4 hx4 hs1=>oB hs1 fun x5 hx5 hs1=>qm Z<|qm Z<|qm Z<|A0 (H7 (f:=A6) Z Z hx4) Z<|A0 (I1 Z Z) Z<|C3 (rs:=[.b x5]) Z Z (A3 (E1 Z) C2) (Impl.call g1_h hx5 _)<|es (ra6 Z Z Z Z Z Z)<|wi hs1 Z (fun hc6 hs1=>?_) fun hc6 hs1=>?_
   ·refine s0<|qm Z<|qm Z<|es (ra1 Z)<|C7 ?_
    obtain rfl:=os hs1
    exact lx Z (ZO Z (retq trivial (A7 Z C0) (A4 Z B9) (A2 A5 A8))) (Sub.refl _)
   ·refine C6<|r0<|A0 (G1 Z Z) Z<|qm Z<|en (ra4 Z Z Z Z) ?_
    cases hs1
    exact lnT () Z (su4 Z Z Z Z)
  ·refine J1 ?_
   obtain rfl:=os hs1
   exact lx Z px (.nil _)
 ·rcases o7 with vo7_0|vo7_1
  ·rintro e s' H'-⟨rfl,hret⟩
   cases h
   exact hret
  ·rintro e s' H'-⟨rfl,rfl,rfl⟩
   refine s0<|qm Z<|es (ra1 Z)<|C7 ?_
   obtain rfl:=os h
   exact retq trivial (A7 Z C0) (A4 Z B9) (A2 A5 A8)
def G2 (a0:(List PaFigure)) (g1:(PaFigure→Option Bool)):Option Bool :=
 (J9 a0 g1).bind fun x1 =>
 some (decide (x1≥0))
theorem T8 {c:Sc} {H:A1} {a0:(List PaFigure)} {g1:PaFigure→Option Bool} {g1_i:Nat} {g1_f g1_c:List AV} (g1_h:Impl tab H g1_i g1_f g1_c g1 (fun y=>[(.agg (A6 y))]) (fun y=>[.b y])) {r:Bool} (h:G2 a0 g1=some r) :
  E7 tab c H (.fn (.func 82) [] []) [(.seq 4 (Zd A6 a0)),.fn (.func g1_i) g1_f g1_c] [.b r]:= by
 unfold G2 at h
 refine cE Z Z<|s0<|qm Z<|es (ra2 Z Z)<|s0<|oB h fun x1 hx1 h=>qm Z<|qm Z<|C3 (rs:=[.i x1]) Z Z (A3 Z (A3 Z C2)) ((V6 (Impl.app g1_h _) hx1).frz)<|A0 (A7x Z Z) Z<|qm Z<|es (ra1 Z)<|C7 ?_
 obtain rfl:=os h
 exact retq trivial (A7 Z C0) (A4 Z B9) (A2 A5 A8)
def N3 (a0:(List PaFigure)) (a1:Int) (g2:(PaFigure→Option ByteArray)):Option Int :=
 (idx a0 a1).bind fun x1 =>
 (g2 x1).bind fun x2 =>
 (A2p x2).bind fun x3 =>
 if (!x3)=true then
  some 6
 else
  (slc a0 0 a1).bind fun x5 =>
  (G2 x5 (fun (y:PaFigure)=>M4 y g2 a0 a1)).bind fun x6 =>
  if x6=true then
  some 5
  else
  some 0
theorem A4t {c:Sc} {H:A1} {a0:(List PaFigure)} {a1:Int} {g2:PaFigure→Option ByteArray} {g2_i:Nat} {g2_f g2_c:List AV} (g2_h:Impl tab H g2_i g2_f g2_c g2 (fun y=>[(.agg (A6 y))]) (fun y=>[.s y])) {r:Int} (h:N3 a0 a1 g2=some r) :
  E7 tab c H (.fn (.func 67) [] []) [(.seq 4 (Zd A6 a0)),.i a1,.fn (.func g2_i) g2_f g2_c] [.i r]:= by
 unfold N3 at h
 refine cE Z Z<|sg 0 Z<|A0 (F6 (cs:=(cL 4 A6) a0) Z Z Z) Z<|A0 (F6 (cs:=cI a1) Z Z Z) Z<|A0 (F6 (cs:=[(.fn (.func g2_i) g2_f g2_c)]) Z Z Z) Z<|qm Z<|es (ra3 Z Z Z)<|C4<|C8<|s0<|oB h fun x1 hx1 h=>oB h fun x2 hx2 h=>oB h fun x3 hx3 h=>A0 (B5 (x:=(.fn (.func g2_i) g2_f g2_c)) Z Z Z) Z<|A0 (B5 Z Z Z) Z<|A0 (B5 Z Z Z) Z<|A0 (H7 (f:=A6) Z Z hx1) Z<|A0 (I1 Z Z) Z<|C3 (rs:=[.s x2]) Z Z (A3 (E1 Z) C2) (Impl.call g2_h hx2 _)<|C3 (rs:=[.b x3]) Z Z (A3 Z C2) ((A91 hx3).frz)<|A0 (Y9 Z) Z<|qm Z<|es (ra4 Z Z Z Z)<|wi h Z (fun hc4 h=>?_) fun hc4 h=>?_
 ·refine s0<|qm Z<|es (ra1 Z)<|C7 ?_
  obtain rfl:=os h
  exact retq trivial (A7 Z C0) (A4 Z B9) (A2 A5 A8)
 ·refine s0<|oB h fun x5 hx5 h=>oB h fun x6 hx6 h=>A0 (B5 Z Z Z) Z<|A0 (B5 Z Z Z) Z<|A0 (C4b (f:=A6) Z Z Z hx5) Z<|A0 (A2q Z Z) Z<|C3 (rs:=[.b x6]) Z Z (A3 Z (A3 Z C2)) ((T8 (show Impl _ _ 83 [] [(.ptr (H.length+2) 0),(.ptr (H.length+0) 0),(.ptr (H.length+1) 0)] (fun (y:PaFigure)=>M4 y g2 a0 a1) (fun (y:PaFigure)=>[(.agg (A6 y))]) (fun (y:Bool)=>[.b y]) from ⟨⟨A8,(by rw[Zp];exact(A2 (N6 Z) (A2 (N6 Z) (A2 (N6 Z) A8))))⟩,fun H' hle hag c y r hr=>(A2i (A3q (Impl.mono (Impl.app g2_h _) hle hag) (hag _ _ (D7 Z)) (hag _ _ (D7 Z)) (hag _ _ (D7 Z)) hr)).frz⟩) hx6).frz)<|qm Z<|es (ra1 Z)<|wi h Z (fun hc7 h=>?_) fun hc7 h=>?_
  ·refine s0<|qm Z<|es (ra1 Z)<|C7 ?_
   obtain rfl:=os h
   exact retq trivial (A7 Z C0) (A4 Z B9) (A2 A5 A8)
  ·refine C6<|s0<|qm Z<|es (ra1 Z)<|C7 ?_
   obtain rfl:=os h
   exact retq trivial (A7 Z C0) (A4 Z B9) (A2 A5 A8)
def N4 (a0:PaGown) (g1:(PaGown→Option ByteArray)) (a2:(List PaGown)) (a3:Int):Option Bool :=
 (g1 a0).bind fun x1 =>
 (idx a2 a3).bind fun x2 =>
 (g1 x2).bind fun x3 =>
 some (eqS x1 x3)
theorem A4u {c:Sc} {H:A1} {a0:PaGown} {g1:PaGown→Option ByteArray} {g1_i:Nat} {g1_f g1_c:List AV} (g1_h:Impl tab H g1_i g1_f g1_c g1 (fun y=>[(.agg (B2 y))]) (fun y=>[.s y])) {b1:Nat} (hb1:hcells H b1=some [.fn (.func g1_i) g1_f g1_c]) {a2:(List PaGown)} {b2:Nat} (hb2:hcells H b2=some ((cL 8 B2) a2)) {a3:Int} {b3:Nat} (hb3:hcells H b3=some (cI a3)) {r:Bool} (h:N4 a0 g1 a2 a3=some r) :
  E7 tab c H (.fn (.func 81) [] []) [(.agg (B2 a0)),.ptr b1 0,.ptr b2 0,.ptr b3 0] [.b r]:= by
 unfold N4 at h
 refine cE Z Z<|sg 0 Z<|A0 (F6 (cs:=B2 a0) Z Z Z) Z<|qm Z<|es (ra4 Z Z Z Z)<|s0<|oB h fun x1 hx1 h=>oB h fun x2 hx2 h=>oB h fun x3 hx3 h=>A0 (F1 (x:=(.fn (.func g1_i) g1_f g1_c)) Z hb1 Z) Z<|A0 (E8 Z Z Z) Z<|Z8 (rs:=[.s x1]) Z Z (B11 Z A4v) (A3 (E1 Z) C2) (Impl.callP g1_h hx1 _)<|A0 (F1 (x:=(.fn (.func g1_i) g1_f g1_c)) Z hb1 Z) Z<|A0 (F1 Z hb2 Z) Z<|A0 (F1 Z hb3 Z) Z<|A0 (H7 (f:=B2) Z Z hx2) Z<|A0 (I1 Z Z) Z<|C3 (rs:=[.s x3]) Z Z (A3 (E1 Z) C2) (Impl.call g1_h hx3 _)<|A0 (D0x Z Z) Z<|qm Z<|es (ra1 Z)<|C7 ?_
 obtain rfl:=os h
 exact retq trivial (A7 Z C0) (A4 Z B9) (A2 A5 A8)
def K2 (a0:(List PaGown)) (g1:(PaGown→Option Bool)) (s1:Int):Option (Int⊕(Int⊕Unit)) :=
 if (decide (s1<(Zh a0:Int)))=true then
  (idx a0 s1).bind fun x4 =>
  (g1 x4).bind fun x5 =>
  if x5=true then
  some (.inr (.inl s1))
  else
  some (.inl (w64 (s1+1)))
 else
  some (.inr (.inr ()))
def L9 (a0:(List PaGown)) (g1:(PaGown→Option Bool)):Option Int :=
 (loop (K2 a0 g1) 0).bind fun (o7:(Int⊕Unit)) =>
 match o7 with
 | (.inl vo7_0) =>
  some vo7_0
 | (.inr vo7_1) =>
  some (-1)
theorem X9 {c:Sc} {H:A1} {a0:(List PaGown)} {g1:PaGown→Option Bool} {g1_i:Nat} {g1_f g1_c:List AV} (g1_h:Impl tab H g1_i g1_f g1_c g1 (fun y=>[(.agg (B2 y))]) (fun y=>[.b y])) {r:Int} (h:L9 a0 g1=some r) :
  E7 tab c H (.fn (.func 97) [] []) [(.seq 8 (Zd B2 a0)),.fn (.func g1_i) g1_f g1_c] [.i r]:= by
 unfold L9 at h
 refine cE Z Z<|s0<|qm Z<|es (ra2 Z Z)<|C4<|s0<|qm Z<|A0 (I0 (f:=B2) Z) Z<|qm Z<|es (ra4 Z Z Z Z)<|C8<|oB h fun o7 ho7 h=>wl (fun s1=>[(0,(.seq 8 (Zd B2 a0))),(1,(.fn (.func g1_i) g1_f g1_c)),(7,(.i (Zh a0:Int))),(8,.i s1)]) (fun (q2:Unit) s1=>[]) 0 (fun r e s' H'=>(match r with|(.inl v)=>e=.ret∧RetQ H [.tmp 4] [.i v] e s' H' | (.inr v)=>PX 0 [] (H++[]) e s' H':Prop)) () ho7 Z Z (fun _ _=>rfl) (fun _=>rfl) Z (fun s1=>(bdc N7 (bdc (C26 g1_h.1) (bdc A5 (bdc A5 bdn))))) (fun q2 s1 ys1 hs1=>?_) ?_
 ·unfold K2 at hs1
  refine s0<|A0 (L5 Z Z) Z<|es (ra5 Z Z Z Z Z)<|C4<|wi hs1 Z (fun hc3 hs1=>?_) fun hc3 hs1=>?_
  ·refine C6<|C4<|C8<|s0<|qm Z<|qm Z<|es (ra5 Z Z Z Z Z)<|s0<|oB hs1 fun x4 hx4 hs1=>oB hs1 fun x5 hx5 hs1=>qm Z<|qm Z<|qm Z<|A0 (H7 (f:=B2) Z Z hx4) Z<|A0 (I1 Z Z) Z<|C3 (rs:=[.b x5]) Z Z (A3 (E1 Z) C2) (Impl.call g1_h hx5 _)<|es (ra6 Z Z Z Z Z Z)<|wi hs1 Z (fun hc6 hs1=>?_) fun hc6 hs1=>?_
   ·refine s0<|qm Z<|qm Z<|es (ra1 Z)<|C7 ?_
    obtain rfl:=os hs1
    exact lx Z (ZO Z (retq trivial (A7 Z C0) (A4 Z B9) (A2 A5 A8))) (Sub.refl _)
   ·refine C6<|r0<|A0 (G1 Z Z) Z<|qm Z<|en (ra4 Z Z Z Z) ?_
    cases hs1
    exact lnT () Z (su4 Z Z Z Z)
  ·refine J1 ?_
   obtain rfl:=os hs1
   exact lx Z px (.nil _)
 ·rcases o7 with vo7_0|vo7_1
  ·rintro e s' H'-⟨rfl,hret⟩
   cases h
   exact hret
  ·rintro e s' H'-⟨rfl,rfl,rfl⟩
   refine s0<|qm Z<|es (ra1 Z)<|C7 ?_
   obtain rfl:=os h
   exact retq trivial (A7 Z C0) (A4 Z B9) (A2 A5 A8)
def H6 (a0:(List PaGown)) (g1:(PaGown→Option Bool)):Option Bool :=
 (L9 a0 g1).bind fun x1 =>
 some (decide (x1≥0))
theorem W0 {c:Sc} {H:A1} {a0:(List PaGown)} {g1:PaGown→Option Bool} {g1_i:Nat} {g1_f g1_c:List AV} (g1_h:Impl tab H g1_i g1_f g1_c g1 (fun y=>[(.agg (B2 y))]) (fun y=>[.b y])) {r:Bool} (h:H6 a0 g1=some r) :
  E7 tab c H (.fn (.func 80) [] []) [(.seq 8 (Zd B2 a0)),.fn (.func g1_i) g1_f g1_c] [.b r]:= by
 unfold H6 at h
 refine cE Z Z<|s0<|qm Z<|es (ra2 Z Z)<|s0<|oB h fun x1 hx1 h=>qm Z<|qm Z<|C3 (rs:=[.i x1]) Z Z (A3 Z (A3 Z C2)) ((X9 (Impl.app g1_h _) hx1).frz)<|A0 (A7x Z Z) Z<|qm Z<|es (ra1 Z)<|C7 ?_
 obtain rfl:=os h
 exact retq trivial (A7 Z C0) (A4 Z B9) (A2 A5 A8)
def O7 (a0:(List PaGown)) (a1:Int) (g2:(PaGown→Option ByteArray)):Option Int :=
 (idx a0 a1).bind fun x1 =>
 (g2 x1).bind fun x2 =>
 (A2p x2).bind fun x3 =>
 if (!x3)=true then
  some 6
 else
  (slc a0 0 a1).bind fun x5 =>
  (H6 x5 (fun (y:PaGown)=>N4 y g2 a0 a1)).bind fun x6 =>
  if x6=true then
  some 5
  else
  some 0
theorem A5t {c:Sc} {H:A1} {a0:(List PaGown)} {a1:Int} {g2:PaGown→Option ByteArray} {g2_i:Nat} {g2_f g2_c:List AV} (g2_h:Impl tab H g2_i g2_f g2_c g2 (fun y=>[(.agg (B2 y))]) (fun y=>[.s y])) {r:Int} (h:O7 a0 a1 g2=some r) :
  E7 tab c H (.fn (.func 64) [] []) [(.seq 8 (Zd B2 a0)),.i a1,.fn (.func g2_i) g2_f g2_c] [.i r]:= by
 unfold O7 at h
 refine cE Z Z<|sg 0 Z<|A0 (F6 (cs:=(cL 8 B2) a0) Z Z Z) Z<|A0 (F6 (cs:=cI a1) Z Z Z) Z<|A0 (F6 (cs:=[(.fn (.func g2_i) g2_f g2_c)]) Z Z Z) Z<|qm Z<|es (ra3 Z Z Z)<|C4<|C8<|s0<|oB h fun x1 hx1 h=>oB h fun x2 hx2 h=>oB h fun x3 hx3 h=>A0 (B5 (x:=(.fn (.func g2_i) g2_f g2_c)) Z Z Z) Z<|A0 (B5 Z Z Z) Z<|A0 (B5 Z Z Z) Z<|A0 (H7 (f:=B2) Z Z hx1) Z<|A0 (I1 Z Z) Z<|C3 (rs:=[.s x2]) Z Z (A3 (E1 Z) C2) (Impl.call g2_h hx2 _)<|C3 (rs:=[.b x3]) Z Z (A3 Z C2) ((A91 hx3).frz)<|A0 (Y9 Z) Z<|qm Z<|es (ra4 Z Z Z Z)<|wi h Z (fun hc4 h=>?_) fun hc4 h=>?_
 ·refine s0<|qm Z<|es (ra1 Z)<|C7 ?_
  obtain rfl:=os h
  exact retq trivial (A7 Z C0) (A4 Z B9) (A2 A5 A8)
 ·refine s0<|oB h fun x5 hx5 h=>oB h fun x6 hx6 h=>A0 (B5 Z Z Z) Z<|A0 (B5 Z Z Z) Z<|A0 (C4b (f:=B2) Z Z Z hx5) Z<|A0 (A2q Z Z) Z<|C3 (rs:=[.b x6]) Z Z (A3 Z (A3 Z C2)) ((W0 (show Impl _ _ 81 [] [(.ptr (H.length+2) 0),(.ptr (H.length+0) 0),(.ptr (H.length+1) 0)] (fun (y:PaGown)=>N4 y g2 a0 a1) (fun (y:PaGown)=>[(.agg (B2 y))]) (fun (y:Bool)=>[.b y]) from ⟨⟨A8,(by rw[Zp];exact(A2 (N6 Z) (A2 (N6 Z) (A2 (N6 Z) A8))))⟩,fun H' hle hag c y r hr=>(A2i (A4u (Impl.mono (Impl.app g2_h _) hle hag) (hag _ _ (D7 Z)) (hag _ _ (D7 Z)) (hag _ _ (D7 Z)) hr)).frz⟩) hx6).frz)<|qm Z<|es (ra1 Z)<|wi h Z (fun hc7 h=>?_) fun hc7 h=>?_
  ·refine s0<|qm Z<|es (ra1 Z)<|C7 ?_
   obtain rfl:=os h
   exact retq trivial (A7 Z C0) (A4 Z B9) (A2 A5 A8)
  ·refine C6<|s0<|qm Z<|es (ra1 Z)<|C7 ?_
   obtain rfl:=os h
   exact retq trivial (A7 Z C0) (A4 Z B9) (A2 A5 A8)
def Z9 (a0:Int) (a1:Int) (a2:Int):Option Bool :=
 some ((decide (a0<a1))||(decide (a0>a2)))
theorem B1x {c:Sc} {H:A1} {a0:Int} {a1:Int} {b1:Nat} (hb1:hcells H b1=some (cI a1)) {a2:Int} {b2:Nat} (hb2:hcells H b2=some (cI a2)) {r:Bool} (h:Z9 a0 a1 a2=some r) :
  E7 tab c H (.fn (.func 51) [] []) [.i a0,.ptr b1 0,.ptr b2 0] [.b r]:= by
 unfold Z9 at h
 refine cE Z Z<|s0<|qm Z<|es (ra3 Z Z Z)<|s0<|qm Z<|A0 (F1 Z hb1 Z) Z<|A0 (L5 Z Z) Z<|qm Z<|gp 4 12 (.b ((decide (a0<a1))||(decide (a0>a2)))) 8 Z Z (fun hg1=>?_) (fun hg1=>?_) ?_
 ·exact nF Z hg1 Z<|nF Z hg1 Z<|nF Z hg1 Z<|A0 (D1 Z hg1 Z) Z<|ge 4 (by rw[hg1];rfl) Z Z
 ·exact gF Z hg1<|qm Z<|gF Z hg1<|A0 (F1 Z hb2 Z) Z<|gF Z hg1<|A0 (A3b Z Z) Z<|A0 (D0 Z hg1 Z) Z<|ge 4 (by rw[hg1];rfl) Z Z
 refine qm Z<|es (ra1 Z)<|C7 ?_
 obtain rfl:=os h
 exact retq trivial (A7 Z C0) (A4 Z B9) (A2 A5 A8)
def R7 (a0:(List Int)) (g1:(Int→Option Bool)) (s1:Int):Option (Int⊕(Int⊕Unit)) :=
 if (decide (s1<(Zh a0:Int)))=true then
  (idx a0 s1).bind fun x4 =>
  (g1 x4).bind fun x5 =>
  if x5=true then
  some (.inr (.inl s1))
  else
  some (.inl (w64 (s1+1)))
 else
  some (.inr (.inr ()))
def V3 (a0:(List Int)) (g1:(Int→Option Bool)):Option Int :=
 (loop (R7 a0 g1) 0).bind fun (o7:(Int⊕Unit)) =>
 match o7 with
 | (.inl vo7_0) =>
  some vo7_0
 | (.inr vo7_1) =>
  some (-1)
theorem A30 {c:Sc} {H:A1} {a0:(List Int)} {g1:Int→Option Bool} {g1_i:Nat} {g1_f g1_c:List AV} (g1_h:Impl tab H g1_i g1_f g1_c g1 (fun y=>[.i y]) (fun y=>[.b y])) {r:Int} (h:V3 a0 g1=some r) :
  E7 tab c H (.fn (.func 71) [] []) [(.seq 1 (Zd cI a0)),.fn (.func g1_i) g1_f g1_c] [.i r]:= by
 unfold V3 at h
 refine cE Z Z<|s0<|qm Z<|es (ra2 Z Z)<|C4<|s0<|qm Z<|A0 (I0 (f:=cI) Z) Z<|qm Z<|es (ra4 Z Z Z Z)<|C8<|oB h fun o7 ho7 h=>wl (fun s1=>[(0,(.seq 1 (Zd cI a0))),(1,(.fn (.func g1_i) g1_f g1_c)),(7,(.i (Zh a0:Int))),(8,.i s1)]) (fun (q2:Unit) s1=>[]) 0 (fun r e s' H'=>(match r with|(.inl v)=>e=.ret∧RetQ H [.tmp 4] [.i v] e s' H' | (.inr v)=>PX 0 [] (H++[]) e s' H':Prop)) () ho7 Z Z (fun _ _=>rfl) (fun _=>rfl) Z (fun s1=>(bdc N7 (bdc (C26 g1_h.1) (bdc A5 (bdc A5 bdn))))) (fun q2 s1 ys1 hs1=>?_) ?_
 ·unfold R7 at hs1
  refine s0<|A0 (L5 Z Z) Z<|es (ra5 Z Z Z Z Z)<|C4<|wi hs1 Z (fun hc3 hs1=>?_) fun hc3 hs1=>?_
  ·refine C6<|C4<|C8<|s0<|qm Z<|qm Z<|es (ra5 Z Z Z Z Z)<|s0<|oB hs1 fun x4 hx4 hs1=>oB hs1 fun x5 hx5 hs1=>qm Z<|qm Z<|qm Z<|A0 (H7 (f:=cI) Z Z hx4) Z<|A0 (V8 Z Z) Z<|C3 (rs:=[.b x5]) Z Z (A3 Z C2) (Impl.call g1_h hx5 _)<|es (ra6 Z Z Z Z Z Z)<|wi hs1 Z (fun hc6 hs1=>?_) fun hc6 hs1=>?_
   ·refine s0<|qm Z<|qm Z<|es (ra1 Z)<|C7 ?_
    obtain rfl:=os hs1
    exact lx Z (ZO Z (retq trivial (A7 Z C0) (A4 Z B9) (A2 A5 A8))) (Sub.refl _)
   ·refine C6<|r0<|A0 (G1 Z Z) Z<|qm Z<|en (ra4 Z Z Z Z) ?_
    cases hs1
    exact lnT () Z (su4 Z Z Z Z)
  ·refine J1 ?_
   obtain rfl:=os hs1
   exact lx Z px (.nil _)
 ·rcases o7 with vo7_0|vo7_1
  ·rintro e s' H'-⟨rfl,hret⟩
   cases h
   exact hret
  ·rintro e s' H'-⟨rfl,rfl,rfl⟩
   refine s0<|qm Z<|es (ra1 Z)<|C7 ?_
   obtain rfl:=os h
   exact retq trivial (A7 Z C0) (A4 Z B9) (A2 A5 A8)
def N5 (a0:(List Int)) (g1:(Int→Option Bool)):Option Bool :=
 (V3 a0 g1).bind fun x1 =>
 some (decide (x1≥0))
theorem A2s {c:Sc} {H:A1} {a0:(List Int)} {g1:Int→Option Bool} {g1_i:Nat} {g1_f g1_c:List AV} (g1_h:Impl tab H g1_i g1_f g1_c g1 (fun y=>[.i y]) (fun y=>[.b y])) {r:Bool} (h:N5 a0 g1=some r) :
  E7 tab c H (.fn (.func 50) [] []) [(.seq 1 (Zd cI a0)),.fn (.func g1_i) g1_f g1_c] [.b r]:= by
 unfold N5 at h
 refine cE Z Z<|s0<|qm Z<|es (ra2 Z Z)<|s0<|oB h fun x1 hx1 h=>qm Z<|qm Z<|C3 (rs:=[.i x1]) Z Z (A3 Z (A3 Z C2)) ((A30 (Impl.app g1_h _) hx1).frz)<|A0 (A7x Z Z) Z<|qm Z<|es (ra1 Z)<|C7 ?_
 obtain rfl:=os h
 exact retq trivial (A7 Z C0) (A4 Z B9) (A2 A5 A8)
def E2 (a0:Int) (a1:Int) (a2:(List Int)):Option Bool :=
 (N5 a2 (fun (y:Int)=>Z9 y a0 a1)).bind fun x1 =>
 some x1
theorem E6 {c:Sc} {H:A1} {a0:Int} {a1:Int} {a2:(List Int)} {r:Bool} (h:E2 a0 a1 a2=some r) :
  E7 tab c H (.fn (.func 24) [] []) [.i a0,.i a1,(.seq 1 (Zd cI a2))] [.b r]:= by
 unfold E2 at h
 refine cE Z Z<|sg 0 Z<|A0 (F6 (cs:=cI a0) Z Z Z) Z<|A0 (F6 (cs:=cI a1) Z Z Z) Z<|qm Z<|es (ra3 Z Z Z)<|s0<|oB h fun x1 hx1 h=>qm Z<|A0 (A2q Z Z) Z<|C3 (rs:=[.b x1]) Z Z (A3 Z (A3 Z C2)) ((A2s (show Impl _ _ 51 [] [(.ptr (H.length+0) 0),(.ptr (H.length+1) 0)] (fun (y:Int)=>Z9 y a0 a1) (fun (y:Int)=>[.i y]) (fun (y:Bool)=>[.b y]) from ⟨⟨A8,(by rw[Zp];exact(A2 (N6 Z) (A2 (N6 Z) A8)))⟩,fun H' hle hag c y r hr=>(A2i (B1x (hag _ _ (D7 Z)) (hag _ _ (D7 Z)) hr)).frz⟩) hx1).frz)<|qm Z<|es (ra1 Z)<|C7 ?_
 obtain rfl:=os h
 exact retq trivial (A7 Z C0) (A4 Z B9) (A2 A5 A8)
def A4w (a0:PaGown):Option Bool :=
 if (!a0.Pawn)=true then
  (E2 0 15 [a0.Looks]).bind fun x2 =>
  (if x2=true then
  some true
  else
  (E2 0 0 [a0.Loan,a0.Rate,a0.Fee,a0.Ago,a0.Last]).bind fun x4 =>
  some x4).bind fun x5 =>
  some x5
 else
  (E2 0 15 [a0.Looks]).bind fun x6 =>
  (if x6=true then
  some true
  else
  (E2 0 5000 [a0.Loan]).bind fun x8 =>
  some x8).bind fun x9 =>
  (if x9=true then
  some true
  else
  (E2 0 500 [a0.Rate]).bind fun x11 =>
  some x11).bind fun x12 =>
  (if x12=true then
  some true
  else
  (E2 0 100 [a0.Fee]).bind fun x14 =>
  some x14).bind fun x15 =>
  (if x15=true then
  some true
  else
  (E2 0 364 [a0.Ago,a0.Last]).bind fun x17 =>
  some x17).bind fun x18 =>
  some x18
theorem B88 {c:Sc} {H:A1} {a0:PaGown} {r:Bool} (h:A4w a0=some r) :
  E7 tab c H (.fn (.func 66) [] []) [(.agg (B2 a0))] [.b r]:= by
 unfold A4w at h
 refine cE Z Z<|sg 0 Z<|A0 (F6 (cs:=B2 a0) Z Z Z) Z<|qm Z<|es (ra1 Z)<|C4<|s0<|A0 (C1 Z) Z<|A0 (B5 Z Z Z) Z<|A0 (Y9 Z) Z<|es (ra2 Z Z)<|wi h Z (fun hc1 h=>?_) fun hc1 h=>?_
 ·refine s0<|oB h fun x2 hx2 h=>oB h fun x5 hx5 h=>A0 (C1 Z) Z<|A0 (B5 Z Z Z) Z<|A0 (I8 (rows:=Zd cI [a0.Looks]) Z Z (D9 (fun _=>rfl) _)) Z<|C3 (rs:=[.b x2]) Z Z (A3 Z (A3 Z (A3 Z C2))) ((E6 hx2).frz)<|qm Z<|gp 13 23 (.b x5) 10 Z Z (fun hg3=>?_) (fun hg3=>?_) ?_
  ·obtain rfl:=os (bt hx5 hg3)
   exact nF Z hg3 Z<|nF Z hg3 Z<|nF Z hg3 Z<|nF Z hg3 Z<|nF Z hg3 Z<|nF Z hg3 Z<|nF Z hg3 Z<|nF Z hg3 Z<|nF Z hg3 Z<|nF Z hg3 Z<|nF Z hg3 Z<|L7 (F4 Z (by rw[hg3];rfl)) Z<|A0 (D1 Z hg3 Z) Z<|ge 13 Z Z Z
  ·refine oB (bf hx5 hg3) fun x4 hx4 hx5=>?_
   obtain rfl:=os hx5
   exact gF Z hg3<|A0 (C1 Z) Z<|gF Z hg3<|A0 (B5 Z Z Z) Z<|gF Z hg3<|A0 (C1 Z) Z<|gF Z hg3<|A0 (B5 Z Z Z) Z<|gF Z hg3<|A0 (C1 Z) Z<|gF Z hg3<|A0 (B5 Z Z Z) Z<|gF Z hg3<|A0 (C1 Z) Z<|gF Z hg3<|A0 (B5 Z Z Z) Z<|gF Z hg3<|A0 (C1 Z) Z<|gF Z hg3<|A0 (B5 Z Z Z) Z<|gF Z hg3<|A0 (I8 (rows:=Zd cI [a0.Loan,a0.Rate,a0.Fee,a0.Ago,a0.Last]) Z Z (D9 (fun _=>rfl) _)) Z<|gF Z hg3<|C3 (rs:=[.b x4]) Z Z (A3 Z (A3 Z (A3 Z C2))) ((E6 hx4).frz)<|A0 (D0 Z hg3 Z) Z<|ge 13 Z Z Z
  refine qm Z<|es (ra1 Z)<|C7 ?_
  obtain rfl:=os h
  exact retq trivial (A7 Z C0) (A4 Z B9) (A2 A5 A8)
 ·refine C6<|s0<|oB h fun x6 hx6 h=>oB h fun x9 hx9 h=>oB h fun x12 hx12 h=>oB h fun x15 hx15 h=>oB h fun x18 hx18 h=>A0 (C1 Z) Z<|A0 (B5 Z Z Z) Z<|A0 (I8 (rows:=Zd cI [a0.Looks]) Z Z (D9 (fun _=>rfl) _)) Z<|C3 (rs:=[.b x6]) Z Z (A3 Z (A3 Z (A3 Z C2))) ((E6 hx6).frz)<|qm Z<|gp 5 33 (.b x9) 28 Z Z (fun hg7=>?_) (fun hg7=>?_) ?_
  ·obtain rfl:=os (bt hx9 hg7)
   exact nF Z hg7 Z<|nF Z hg7 Z<|nF Z hg7 Z<|L7 (F4 Z (by rw[hg7];rfl)) Z<|A0 (D1 Z hg7 Z) Z<|ge 5 Z Z Z
  ·refine oB (bf hx9 hg7) fun x8 hx8 hx9=>?_
   obtain rfl:=os hx9
   exact gF Z hg7<|A0 (C1 Z) Z<|gF Z hg7<|A0 (B5 Z Z Z) Z<|gF Z hg7<|A0 (I8 (rows:=Zd cI [a0.Loan]) Z Z (D9 (fun _=>rfl) _)) Z<|gF Z hg7<|C3 (rs:=[.b x8]) Z Z (A3 Z (A3 Z (A3 Z C2))) ((E6 hx8).frz)<|A0 (D0 Z hg7 Z) Z<|ge 5 Z Z Z
  refine qm Z<|gp 5 39 (.b x12) 34 Z Z (fun hg10=>?_) (fun hg10=>?_) ?_
  ·obtain rfl:=os (bt hx12 hg10)
   exact nF Z hg10 Z<|nF Z hg10 Z<|nF Z hg10 Z<|L7 (F4 Z (by rw[hg10];rfl)) Z<|A0 (D1 Z hg10 Z) Z<|ge 5 Z Z Z
  ·refine oB (bf hx12 hg10) fun x11 hx11 hx12=>?_
   obtain rfl:=os hx12
   exact gF Z hg10<|A0 (C1 Z) Z<|gF Z hg10<|A0 (B5 Z Z Z) Z<|gF Z hg10<|A0 (I8 (rows:=Zd cI [a0.Rate]) Z Z (D9 (fun _=>rfl) _)) Z<|gF Z hg10<|C3 (rs:=[.b x11]) Z Z (A3 Z (A3 Z (A3 Z C2))) ((E6 hx11).frz)<|A0 (D0 Z hg10 Z) Z<|ge 5 Z Z Z
  refine qm Z<|gp 5 45 (.b x15) 40 Z Z (fun hg13=>?_) (fun hg13=>?_) ?_
  ·obtain rfl:=os (bt hx15 hg13)
   exact nF Z hg13 Z<|nF Z hg13 Z<|nF Z hg13 Z<|L7 (F4 Z (by rw[hg13];rfl)) Z<|A0 (D1 Z hg13 Z) Z<|ge 5 Z Z Z
  ·refine oB (bf hx15 hg13) fun x14 hx14 hx15=>?_
   obtain rfl:=os hx15
   exact gF Z hg13<|A0 (C1 Z) Z<|gF Z hg13<|A0 (B5 Z Z Z) Z<|gF Z hg13<|A0 (I8 (rows:=Zd cI [a0.Fee]) Z Z (D9 (fun _=>rfl) _)) Z<|gF Z hg13<|C3 (rs:=[.b x14]) Z Z (A3 Z (A3 Z (A3 Z C2))) ((E6 hx14).frz)<|A0 (D0 Z hg13 Z) Z<|ge 5 Z Z Z
  refine qm Z<|gp 7 53 (.b x18) 46 Z Z (fun hg16=>?_) (fun hg16=>?_) ?_
  ·obtain rfl:=os (bt hx18 hg16)
   exact nF Z hg16 Z<|nF Z hg16 Z<|nF Z hg16 Z<|nF Z hg16 Z<|nF Z hg16 Z<|L7 (F4 Z (by rw[hg16];rfl)) Z<|A0 (D1 Z hg16 Z) Z<|ge 7 Z Z Z
  ·refine oB (bf hx18 hg16) fun x17 hx17 hx18=>?_
   obtain rfl:=os hx18
   exact gF Z hg16<|A0 (C1 Z) Z<|gF Z hg16<|A0 (B5 Z Z Z) Z<|gF Z hg16<|A0 (C1 Z) Z<|gF Z hg16<|A0 (B5 Z Z Z) Z<|gF Z hg16<|A0 (I8 (rows:=Zd cI [a0.Ago,a0.Last]) Z Z (D9 (fun _=>rfl) _)) Z<|gF Z hg16<|C3 (rs:=[.b x17]) Z Z (A3 Z (A3 Z (A3 Z C2))) ((E6 hx17).frz)<|A0 (D0 Z hg16 Z) Z<|ge 7 Z Z Z
  refine qm Z<|es (ra1 Z)<|C7 ?_
  obtain rfl:=os h
  exact retq trivial (A7 Z C0) (A4 Z B9) (A2 A5 A8)
def A03 (a0:PaShow) (s2:Int):Option (Int⊕((Int×Int×Int)⊕Unit)) :=
 if (decide (s2<(Zh a0.Gowns:Int)))=true then
  (idx a0.Gowns s2).bind fun x5 =>
  (O7 a0.Gowns s2 (fun (y:PaGown)=>A0j y)).bind fun x6 =>
  (if (x6==0)=true then
  (A4w x5).bind fun x8 =>
  some x8
  else
  some false).bind fun x9 =>
  if x9=true then
  some (.inr (.inl (1,s2,7)))
  else
  if (x6 != 0)=true then
   some (.inr (.inl (1,s2,x6)))
  else
   some (.inl (w64 (s2+1)))
 else
  some (.inr (.inr ()))
def A04 (a0:PaShow) (s14:Int):Option (Int⊕((Int×Int×Int)⊕Unit)) :=
 if (decide (s14<(Zh a0.Figures:Int)))=true then
  (idx a0.Figures s14).bind fun x17 =>
  (N3 a0.Figures s14 (fun (y:PaFigure)=>A0k y)).bind fun x18 =>
  if (x18 != 0)=true then
  some (.inr (.inl (2,s14,x18)))
  else
  (E2 0 364 [x17.Day,x17.Until]).bind fun x20 =>
  (if x20=true then
   some true
  else
   (E2 0 15 [x17.Needs]).bind fun x22 =>
   some x22).bind fun x23 =>
  if x23=true then
   some (.inr (.inl (2,s14,7)))
  else
   if (decide (x17.Day>x17.Until))=true then
   some (.inr (.inl (2,s14,2)))
   else
   some (.inl (w64 (s14+1)))
 else
  some (.inr (.inr ()))
def A05 (a0:PaShow) (s30:Int):Option (Int⊕((Int×Int×Int)⊕Unit)) :=
 if (decide (s30<(Zh a0.Incomes:Int)))=true then
  (idx a0.Incomes s30).bind fun x33 =>
  (E2 0 364 [x33.Day]).bind fun x34 =>
  (if x34=true then
  some true
  else
  (E2 0 10000 [x33.Pence]).bind fun x36 =>
  some x36).bind fun x37 =>
  if x37=true then
  some (.inr (.inl (4,s30,7)))
  else
  some (.inl (w64 (s30+1)))
 else
  some (.inr (.inr ()))
def A2t (a0:PaShow):Option (Int×Int×Int) :=
 if (decide ((Zh a0.Gowns:Int)>5))=true then
  some (1,0,3)
 else
  (loop (A03 a0) 0).bind fun (o12:((Int×Int×Int)⊕Unit)) =>
  match o12 with
  | (.inl vo12_0) =>
  some vo12_0
  | (.inr vo12_1) =>
  if (decide ((Zh a0.Figures:Int)>3))=true then
   some (2,0,3)
  else
   (loop (A04 a0) 0).bind fun (o26:((Int×Int×Int)⊕Unit)) =>
   match o26 with
   | (.inl vo26_0) =>
   some vo26_0
   | (.inr vo26_1) =>
   (E2 0 10000 [a0.Purse]).bind fun x27 =>
   if x27=true then
    some (3,0,7)
   else
    if (decide ((Zh a0.Incomes:Int)>3))=true then
    some (4,0,3)
    else
    (loop (A05 a0) 0).bind fun (o39:((Int×Int×Int)⊕Unit)) =>
    match o39 with
    | (.inl vo39_0) =>
     some vo39_0
    | (.inr vo39_1) =>
     some (0,0,0)
theorem A92 {c:Sc} {H:A1} {a0:PaShow} {r:(Int×Int×Int)} (h:A2t a0=some r) :
  E7 tab c H (.fn (.func 40) [] []) [(.agg (B6 a0))] [.i r.1,.i r.2.1,.i r.2.2]:= by
 unfold A2t at h
 refine cE Z Z<|sg 0 Z<|A0 (F6 (cs:=B6 a0) Z Z Z) Z<|qm Z<|qm Z<|qm Z<|es (ra1 Z)<|C4<|s0<|A0 (C1 Z) Z<|A0 (B5 Z Z Z) Z<|A0 (I0 (f:=B2) Z) Z<|A0 (A3b Z Z) Z<|es (ra2 Z Z)<|wi h Z (fun hc1 h=>?_) fun hc1 h=>?_
 ·refine s0<|qm Z<|qm Z<|qm Z<|es (ra3 Z Z Z)<|C7 ?_
  obtain rfl:=os h
  exact retq trivial (A7 Z (A7 Z (A7 Z C0))) (A4 Z (A4 Z (A4 Z B9))) (A2 A5 (A2 A5 (A2 A5 A8)))
 ·refine C6<|C4<|s0<|A0 (C1 Z) Z<|A0 (B5 Z Z Z) Z<|A0 (I0 (f:=B2) Z) Z<|qm Z<|es (ra4 Z Z Z Z)<|C8<|oB h fun o12 ho12 h=>wl (fun s2=>[(1,(.ptr (H.length+0) 0)),(16,(.seq 8 (Zd B2 a0.Gowns))),(17,(.i (Zh a0.Gowns:Int))),(18,.i s2)]) (fun (q3:Unit) s2=>[(.cells (B6 a0))]) 1 (fun r e s' H'=>(match r with|(.inl v)=>e=.ret∧RetQ H [.tmp 2,.tmp 3,.tmp 4] [.i v.1,.i v.2.1,.i v.2.2] e s' H' | (.inr v)=>PX 0 [(1,(.ptr (H.length+0) 0))] (H++[(.cells (B6 a0))]) e s' H':Prop)) () ho12 Z Z (fun _ _=>rfl) (fun _=>rfl) Z (fun s2=>(bdc (N6 Z) (bdc N7 (bdc A5 (bdc A5 bdn))))) (fun q3 s2 ys2 hs2=>?_) ?_
  ·unfold A03 at hs2
   refine s0<|A0 (L5 Z Z) Z<|es (ra5 Z Z Z Z Z)<|C4<|wi hs2 Z (fun hc4 hs2=>?_) fun hc4 hs2=>?_
   ·refine C6<|C4<|C8<|sg 1 Z<|oB hs2 fun x5 hx5 hs2=>qm Z<|A0 (H7 (f:=B2) Z Z hx5) Z<|A0 (I1 Z Z) Z<|A0 H8 Z<|qm Z<|K6 (D4 (ds:=(B2 x5)) Z Z Z Z (E0 Z) Z) Z<|es (ra6 Z Z Z Z Z Z)<|s0<|oB hs2 fun x6 hx6 hs2=>A0 (C1 Z) Z<|A0 (B5 Z Z Z) Z<|qm Z<|C3 (rs:=[.i x6]) Z Z (A3 Z (A3 Z (A3 Z C2))) ((A5t (show Impl _ _ 65 [] [] (fun (y:PaGown)=>A0j y) (fun (y:PaGown)=>[(.agg (B2 y))]) (fun (y:ByteArray)=>[.s y]) from ⟨⟨A8,A8⟩,fun H' hle hag c y r hr=>(B49 hr).frz⟩) hx6).frz)<|qm Z<|es (ra7 Z Z Z Z Z Z Z)<|C4<|s0<|oB hs2 fun x9 hx9 hs2=>qm Z<|A0 (K0 Z Z) Z<|qm Z<|gp 3 32 (.b x9) 29 Z Z (fun hg7=>?_) (fun hg7=>?_) ?_
    ·refine oB (bt hx9 hg7) fun x8 hx8 hx9=>?_
     obtain rfl:=os hx9
     exact gT Z hg7<|A0 (E8 Z Z Z) Z<|gT Z hg7<|C3 (rs:=[.b x8]) Z Z (A3 (E1 Z) C2) ((B88 hx8).frz)<|A0 (D1 Z hg7 Z) Z<|ge 3 Z Z Z
    ·obtain rfl:=os (bf hx9 hg7)
     exact nT Z hg7 Z<|L7 (F4 Z (by rw[hg7];rfl)) Z<|A0 (D0 Z hg7 Z) Z<|ge 3 Z Z Z
    refine es (ra7 Z Z Z Z Z Z Z)<|wi hs2 Z (fun hc10 hs2=>?_) fun hc10 hs2=>?_
    ·refine r0<|qm Z<|en (ra6 Z Z Z Z Z Z)<|s0<|qm Z<|A0 (T6 (v:=(.b true)) Z Z Z) Z<|es (ra7 Z Z Z Z Z Z Z)<|O1 Z Z<|s0<|qm Z<|qm Z<|qm Z<|qm Z<|qm Z<|es (ra3 Z Z Z)<|C7 ?_
     obtain rfl:=os hs2
     exact lx Z (ZO Z (retq trivial (A7 Z (A7 Z (A7 Z C0))) (A4 Z (A4 Z (A4 Z B9))) (A2 A5 (A2 A5 (A2 A5 A8))))) (Sub.refl _)
    ·refine C6<|s0<|qm Z<|A0 (Q9 Z Z) Z<|es (ra7 Z Z Z Z Z Z Z)<|wi hs2 Z (fun hc11 hs2=>?_) fun hc11 hs2=>?_
     ·refine s0<|qm Z<|qm Z<|qm Z<|qm Z<|qm Z<|es (ra3 Z Z Z)<|C7 ?_
      obtain rfl:=os hs2
      exact lx Z (ZO Z (retq trivial (A7 Z (A7 Z (A7 Z C0))) (A4 Z (A4 Z (A4 Z B9))) (A2 A5 (A2 A5 (A2 A5 A8))))) (Sub.refl _)
     ·refine C6<|r0<|A0 (G1 Z Z) Z<|qm Z<|en (ra4 Z Z Z Z) ?_
      cases hs2
      exact lnT () Z (su4 Z Z Z Z)
   ·refine J1 ?_
    obtain rfl:=os hs2
    exact lx Z px (su1 Z)
  ·rcases o12 with vo12_0|vo12_1
   ·rintro e s' H'-⟨rfl,hret⟩
    cases h
    exact hret
   ·rintro e s' H'-⟨rfl,rfl,rfl⟩
    refine C4<|s0<|A0 (C1 Z) Z<|A0 (B5 Z Z Z) Z<|A0 (I0 (f:=A6) Z) Z<|A0 (A3b Z Z) Z<|es (ra2 Z Z)<|wi h Z (fun hc13 h=>?_) fun hc13 h=>?_
    ·refine s0<|qm Z<|qm Z<|qm Z<|es (ra3 Z Z Z)<|C7 ?_
     obtain rfl:=os h
     exact retq trivial (A7 Z (A7 Z (A7 Z C0))) (A4 Z (A4 Z (A4 Z B9))) (A2 A5 (A2 A5 (A2 A5 A8)))
    ·refine C6<|C4<|s0<|A0 (C1 Z) Z<|A0 (B5 Z Z Z) Z<|A0 (I0 (f:=A6) Z) Z<|qm Z<|es (ra4 Z Z Z Z)<|C8<|oB h fun o26 ho26 h=>wl (fun s14=>[(1,(.ptr (H.length+0) 0)),(43,(.seq 4 (Zd A6 a0.Figures))),(44,(.i (Zh a0.Figures:Int))),(45,.i s14)]) (fun (q15:Unit) s14=>[(.cells (B6 a0))]) 1 (fun r e s' H'=>(match r with|(.inl v)=>e=.ret∧RetQ H [.tmp 2,.tmp 3,.tmp 4] [.i v.1,.i v.2.1,.i v.2.2] e s' H' | (.inr v)=>PX 2 [(1,(.ptr (H.length+0) 0))] (H++[(.cells (B6 a0))]) e s' H':Prop)) () ho26 Z Z (fun _ _=>rfl) (fun _=>rfl) Z (fun s14=>(bdc (N6 Z) (bdc N7 (bdc A5 (bdc A5 bdn))))) (fun q15 s14 ys14 hs14=>?_) ?_
     ·unfold A04 at hs14
      refine s0<|A0 (L5 Z Z) Z<|es (ra5 Z Z Z Z Z)<|C4<|wi hs14 Z (fun hc16 hs14=>?_) fun hc16 hs14=>?_
      ·refine C6<|C4<|C8<|sg 1 Z<|oB hs14 fun x17 hx17 hs14=>qm Z<|A0 (H7 (f:=A6) Z Z hx17) Z<|A0 (I1 Z Z) Z<|A0 H8 Z<|qm Z<|K6 (D4 (ds:=(A6 x17)) Z Z Z Z (E0 Z) Z) Z<|es (ra6 Z Z Z Z Z Z)<|s0<|oB hs14 fun x18 hx18 hs14=>A0 (C1 Z) Z<|A0 (B5 Z Z Z) Z<|qm Z<|C3 (rs:=[.i x18]) Z Z (A3 Z (A3 Z (A3 Z C2))) ((A4t (show Impl _ _ 68 [] [] (fun (y:PaFigure)=>A0k y) (fun (y:PaFigure)=>[(.agg (A6 y))]) (fun (y:ByteArray)=>[.s y]) from ⟨⟨A8,A8⟩,fun H' hle hag c y r hr=>(B5a hr).frz⟩) hx18).frz)<|qm Z<|es (ra7 Z Z Z Z Z Z Z)<|C4<|C8<|s0<|qm Z<|A0 (Q9 Z Z) Z<|qm Z<|es (ra8 Z Z Z Z Z Z Z Z)<|wi hs14 Z (fun hc19 hs14=>?_) fun hc19 hs14=>?_
       ·refine C6<|s0<|qm Z<|A0 (Q9 Z Z) Z<|es (ra7 Z Z Z Z Z Z Z)<|O1 Z hc19<|s0<|qm Z<|qm Z<|qm Z<|qm Z<|qm Z<|es (ra3 Z Z Z)<|C7 ?_
        obtain rfl:=os hs14
        exact lx Z (ZO Z (retq trivial (A7 Z (A7 Z (A7 Z C0))) (A4 Z (A4 Z (A4 Z B9))) (A2 A5 (A2 A5 (A2 A5 A8))))) (Sub.refl _)
       ·refine s0<|oB hs14 fun x20 hx20 hs14=>oB hs14 fun x23 hx23 hs14=>A0 (C1 Z) Z<|A0 (B5 Z Z Z) Z<|A0 (C1 Z) Z<|A0 (B5 Z Z Z) Z<|A0 (I8 (rows:=Zd cI [x17.Day,x17.Until]) Z Z (D9 (fun _=>rfl) _)) Z<|C3 (rs:=[.b x20]) Z Z (A3 Z (A3 Z (A3 Z C2))) ((E6 hx20).frz)<|qm Z<|gp 5 69 (.b x23) 64 Z Z (fun hg21=>?_) (fun hg21=>?_) ?_
        ·obtain rfl:=os (bt hx23 hg21)
         exact nF Z hg21 Z<|nF Z hg21 Z<|nF Z hg21 Z<|L7 (F4 Z (by rw[hg21];rfl)) Z<|A0 (D1 Z hg21 Z) Z<|ge 5 Z Z Z
        ·refine oB (bf hx23 hg21) fun x22 hx22 hx23=>?_
         obtain rfl:=os hx23
         exact gF Z hg21<|A0 (C1 Z) Z<|gF Z hg21<|A0 (B5 Z Z Z) Z<|gF Z hg21<|A0 (I8 (rows:=Zd cI [x17.Needs]) Z Z (D9 (fun _=>rfl) _)) Z<|gF Z hg21<|C3 (rs:=[.b x22]) Z Z (A3 Z (A3 Z (A3 Z C2))) ((E6 hx22).frz)<|A0 (D0 Z hg21 Z) Z<|ge 5 Z Z Z
        refine qm Z<|es (ra8 Z Z Z Z Z Z Z Z)<|wi hs14 Z (fun hc24 hs14=>?_) fun hc24 hs14=>?_
        ·refine r0<|qm Z<|en (ra6 Z Z Z Z Z Z)<|s0<|qm Z<|A0 (T6 (v:=(.b true)) Z Z Z) Z<|es (ra7 Z Z Z Z Z Z Z)<|O1 Z Z<|s0<|qm Z<|qm Z<|qm Z<|qm Z<|qm Z<|es (ra3 Z Z Z)<|C7 ?_
         obtain rfl:=os hs14
         exact lx Z (ZO Z (retq trivial (A7 Z (A7 Z (A7 Z C0))) (A4 Z (A4 Z (A4 Z B9))) (A2 A5 (A2 A5 (A2 A5 A8))))) (Sub.refl _)
        ·refine s0<|A0 (C1 Z) Z<|A0 (B5 Z Z Z) Z<|A0 (C1 Z) Z<|A0 (B5 Z Z Z) Z<|A0 (A3b Z Z) Z<|qm Z<|es (ra7 Z Z Z Z Z Z Z)<|wi hs14 Z (fun hc25 hs14=>?_) fun hc25 hs14=>?_
         ·refine r0<|qm Z<|en (ra6 Z Z Z Z Z Z)<|s0<|qm Z<|A0 (T6 (v:=(.b true)) Z Z Z) Z<|es (ra7 Z Z Z Z Z Z Z)<|O1 Z Z<|s0<|qm Z<|qm Z<|qm Z<|qm Z<|qm Z<|es (ra3 Z Z Z)<|C7 ?_
          obtain rfl:=os hs14
          exact lx Z (ZO Z (retq trivial (A7 Z (A7 Z (A7 Z C0))) (A4 Z (A4 Z (A4 Z B9))) (A2 A5 (A2 A5 (A2 A5 A8))))) (Sub.refl _)
         ·refine C6<|s0<|qm Z<|A0 (Q9 Z Z) Z<|es (ra7 Z Z Z Z Z Z Z)<|Q6 Z hc19<|C6<|r0<|A0 (G1 Z Z) Z<|qm Z<|en (ra4 Z Z Z Z) ?_
          cases hs14
          exact lnT () Z (su4 Z Z Z Z)
      ·refine J1 ?_
       obtain rfl:=os hs14
       exact lx Z px (su1 Z)
     ·rcases o26 with vo26_0|vo26_1
      ·rintro e s' H'-⟨rfl,hret⟩
       cases h
       exact hret
      ·rintro e s' H'-⟨rfl,rfl,rfl⟩
       refine C4<|C8<|s0<|oB h fun x27 hx27 h=>A0 (C1 Z) Z<|A0 (B5 Z Z Z) Z<|A0 (I8 (rows:=Zd cI [a0.Purse]) Z Z (D9 (fun _=>rfl) _)) Z<|C3 (rs:=[.b x27]) Z Z (A3 Z (A3 Z (A3 Z C2))) ((E6 hx27).frz)<|qm Z<|es (ra2 Z Z)<|wi h Z (fun hc28 h=>?_) fun hc28 h=>?_
       ·refine s0<|qm Z<|qm Z<|qm Z<|es (ra3 Z Z Z)<|C7 ?_
        obtain rfl:=os h
        exact retq trivial (A7 Z (A7 Z (A7 Z C0))) (A4 Z (A4 Z (A4 Z B9))) (A2 A5 (A2 A5 (A2 A5 A8)))
       ·refine s0<|A0 (C1 Z) Z<|A0 (B5 Z Z Z) Z<|A0 (I0 (f:=B1) Z) Z<|A0 (A3b Z Z) Z<|qm Z<|es (ra2 Z Z)<|wi h Z (fun hc29 h=>?_) fun hc29 h=>?_
        ·refine s0<|qm Z<|qm Z<|qm Z<|es (ra3 Z Z Z)<|C7 ?_
         obtain rfl:=os h
         exact retq trivial (A7 Z (A7 Z (A7 Z C0))) (A4 Z (A4 Z (A4 Z B9))) (A2 A5 (A2 A5 (A2 A5 A8)))
        ·refine C6<|C4<|s0<|A0 (C1 Z) Z<|A0 (B5 Z Z Z) Z<|A0 (I0 (f:=B1) Z) Z<|qm Z<|es (ra3 Z Z Z)<|C8<|oB h fun o39 ho39 h=>wl (fun s30=>[(92,(.seq 2 (Zd B1 a0.Incomes))),(93,(.i (Zh a0.Incomes:Int))),(94,.i s30)]) (fun (q31:Unit) s30=>[(.cells (B6 a0))]) 1 (fun r e s' H'=>(match r with|(.inl v)=>e=.ret∧RetQ H [.tmp 2,.tmp 3,.tmp 4] [.i v.1,.i v.2.1,.i v.2.2] e s' H' | (.inr v)=>PX 6 [] (H++[(.cells (B6 a0))]) e s' H':Prop)) () ho39 Z Z (fun _ _=>rfl) (fun _=>rfl) Z (fun s30=>(bdc N7 (bdc A5 (bdc A5 bdn)))) (fun q31 s30 ys30 hs30=>?_) ?_
         ·unfold A05 at hs30
          refine s0<|A0 (L5 Z Z) Z<|es (ra4 Z Z Z Z)<|C4<|wi hs30 Z (fun hc32 hs30=>?_) fun hc32 hs30=>?_
          ·refine C6<|C4<|C8<|sg 1 Z<|oB hs30 fun x33 hx33 hs30=>qm Z<|A0 (H7 (f:=B1) Z Z hx33) Z<|A0 (I1 Z Z) Z<|A0 H8 Z<|qm Z<|K6 (D4 (ds:=(B1 x33)) Z Z Z Z (E0 Z) Z) Z<|es (ra5 Z Z Z Z Z)<|s0<|oB hs30 fun x34 hx34 hs30=>oB hs30 fun x37 hx37 hs30=>A0 (C1 Z) Z<|A0 (B5 Z Z Z) Z<|A0 (I8 (rows:=Zd cI [x33.Day]) Z Z (D9 (fun _=>rfl) _)) Z<|C3 (rs:=[.b x34]) Z Z (A3 Z (A3 Z (A3 Z C2))) ((E6 hx34).frz)<|qm Z<|gp 5 108 (.b x37) 103 Z Z (fun hg35=>?_) (fun hg35=>?_) ?_
           ·obtain rfl:=os (bt hx37 hg35)
            exact nF Z hg35 Z<|nF Z hg35 Z<|nF Z hg35 Z<|L7 (F4 Z (by rw[hg35];rfl)) Z<|A0 (D1 Z hg35 Z) Z<|ge 5 Z Z Z
           ·refine oB (bf hx37 hg35) fun x36 hx36 hx37=>?_
            obtain rfl:=os hx37
            exact gF Z hg35<|A0 (C1 Z) Z<|gF Z hg35<|A0 (B5 Z Z Z) Z<|gF Z hg35<|A0 (I8 (rows:=Zd cI [x33.Pence]) Z Z (D9 (fun _=>rfl) _)) Z<|gF Z hg35<|C3 (rs:=[.b x36]) Z Z (A3 Z (A3 Z (A3 Z C2))) ((E6 hx36).frz)<|A0 (D0 Z hg35 Z) Z<|ge 5 Z Z Z
           refine es (ra5 Z Z Z Z Z)<|wi hs30 Z (fun hc38 hs30=>?_) fun hc38 hs30=>?_
           ·refine s0<|qm Z<|qm Z<|qm Z<|qm Z<|es (ra3 Z Z Z)<|C7 ?_
            obtain rfl:=os hs30
            exact lx Z (ZO Z (retq trivial (A7 Z (A7 Z (A7 Z C0))) (A4 Z (A4 Z (A4 Z B9))) (A2 A5 (A2 A5 (A2 A5 A8))))) (Sub.refl _)
           ·refine C6<|r0<|A0 (G1 Z Z) Z<|qm Z<|en (ra3 Z Z Z) ?_
            cases hs30
            exact lnT () Z (su3 Z Z Z)
          ·refine J1 ?_
           obtain rfl:=os hs30
           exact lx Z px (.nil _)
         ·rcases o39 with vo39_0|vo39_1
          ·rintro e s' H'-⟨rfl,hret⟩
           cases h
           exact hret
          ·rintro e s' H'-⟨rfl,rfl,rfl⟩
           refine s0<|qm Z<|qm Z<|qm Z<|es (ra3 Z Z Z)<|C7 ?_
           obtain rfl:=os h
           exact retq trivial (A7 Z (A7 Z (A7 Z C0))) (A4 Z (A4 Z (A4 Z B9))) (A2 A5 (A2 A5 (A2 A5 A8)))
end Pw
end
