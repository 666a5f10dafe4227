/- Texts that the claim stands on, one behind another. -/
import Derived.Test.YtjpjdglddmhplaaA4
import Derived.Test.YtjpjdglddmhplaaChecked
import Derived.KernelRfl
set_option linter.unusedVariables false
set_option linter.unusedSimpArgs false
set_option linter.unnecessarySimpa false
section
set_option maxRecDepth 100000
set_option maxHeartbeats 0
namespace Go.Proofs.Ytjpjdglddmhplaa
open Go Am Go.Proofs
theorem m4:B7 Try.prog Try.f4 Cd.a4 = true:= by kernel_rfl
theorem m7:B7 Try.prog Try.f7 Cd.a7 = true:= by kernel_rfl
theorem m8:B7 Try.prog Try.f8 Cd.a8 = true:= by kernel_rfl
theorem m9:B7 Try.prog Try.f9 Cd.a9 = true:= by kernel_rfl
theorem m10:B7 Try.prog Try.f10 Cd.a10 = true:= by kernel_rfl
theorem m11:B7 Try.prog Try.f11 Cd.a11 = true:= by kernel_rfl
theorem m12:B7 Try.prog Try.f12 Cd.a12 = true:= by kernel_rfl
theorem m13:B7 Try.prog Try.f13 Cd.a13 = true:= by kernel_rfl
theorem m14:B7 Try.prog Try.f14 Cd.a14 = true:= by kernel_rfl
theorem m15:B7 Try.prog Try.f15 Cd.a15 = true:= by kernel_rfl
theorem m16:B7 Try.prog Try.f16 Cd.a16 = true:= by kernel_rfl
theorem m17:B7 Try.prog Try.f17 Cd.a17 = true:= by kernel_rfl
theorem m18:B7 Try.prog Try.f18 Cd.a18 = true:= by kernel_rfl
theorem m21:B7 Try.prog Try.f21 Cd.a21 = true:= by kernel_rfl
theorem m22:B7 Try.prog Try.f22 Cd.a22 = true:= by kernel_rfl
theorem m23:B7 Try.prog Try.f23 Cd.a23 = true:= by kernel_rfl
theorem m24:B7 Try.prog Try.f24 Cd.a24 = true:= by kernel_rfl
theorem m25:B7 Try.prog Try.f25 Cd.a25 = true:= by kernel_rfl
theorem m26:B7 Try.prog Try.f26 Cd.a26 = true:= by kernel_rfl
theorem m27:B7 Try.prog Try.f27 Cd.a27 = true:= by kernel_rfl
theorem m28:B7 Try.prog Try.f28 Cd.a28 = true:= by kernel_rfl
theorem m29:B7 Try.prog Try.f29 Cd.a29 = true:= by kernel_rfl
theorem m30:B7 Try.prog Try.f30 Cd.a30 = true:= by kernel_rfl
theorem m31:B7 Try.prog Try.f31 Cd.a31 = true:= by kernel_rfl
theorem m32:B7 Try.prog Try.f32 Cd.a32 = true:= by kernel_rfl
theorem m33:B7 Try.prog Try.f33 Cd.a33 = true:= by kernel_rfl
theorem m34:B7 Try.prog Try.f34 Cd.a34 = true:= by kernel_rfl
theorem m35:B7 Try.prog Try.f35 Cd.a35 = true:= by kernel_rfl
theorem m36:B7 Try.prog Try.f36 Cd.a36 = true:= by kernel_rfl
theorem m37:B7 Try.prog Try.f37 Cd.a37 = true:= by kernel_rfl
theorem m38:B7 Try.prog Try.f38 Cd.a38 = true:= by kernel_rfl
theorem m39:B7 Try.prog Try.f39 Cd.a39 = true:= by kernel_rfl
theorem m40:B7 Try.prog Try.f40 Cd.a40 = true:= by kernel_rfl
theorem m41:B7 Try.prog Try.f41 Cd.a41 = true:= by kernel_rfl
theorem m42:B7 Try.prog Try.f42 Cd.a42 = true:= by kernel_rfl
theorem m43:B7 Try.prog Try.f43 Cd.a43 = true:= by kernel_rfl
theorem m44:B7 Try.prog Try.f44 Cd.a44 = true:= by kernel_rfl
theorem m45:B7 Try.prog Try.f45 Cd.a45 = true:= by kernel_rfl
theorem m46:B7 Try.prog Try.f46 Cd.a46 = true:= by kernel_rfl
theorem m47:B7 Try.prog Try.f47 Cd.a47 = true:= by kernel_rfl
theorem m48:B7 Try.prog Try.f48 Cd.a48 = true:= by kernel_rfl
theorem m49:B7 Try.prog Try.f49 Cd.a49 = true:= by kernel_rfl
theorem m50:B7 Try.prog Try.f50 Cd.a50 = true:= by kernel_rfl
theorem m51:B7 Try.prog Try.f51 Cd.a51 = true:= by kernel_rfl
theorem m52:B7 Try.prog Try.f52 Cd.a52 = true:= by kernel_rfl
theorem m53:B7 Try.prog Try.f53 Cd.a53 = true:= by kernel_rfl
theorem m54:B7 Try.prog Try.f54 Cd.a54 = true:= by kernel_rfl
theorem m55:B7 Try.prog Try.f55 Cd.a55 = true:= by kernel_rfl
theorem m56:B7 Try.prog Try.f56 Cd.a56 = true:= by kernel_rfl
theorem m57:B7 Try.prog Try.f57 Cd.a57 = true:= by kernel_rfl
theorem m58:B7 Try.prog Try.f58 Cd.a58 = true:= by kernel_rfl
theorem m59:B7 Try.prog Try.f59 Cd.a59 = true:= by kernel_rfl
theorem m60:B7 Try.prog Try.f60 Cd.a60 = true:= by kernel_rfl
theorem m61:B7 Try.prog Try.f61 Cd.a61 = true:= by kernel_rfl
theorem m62:B7 Try.prog Try.f62 Cd.a62 = true:= by kernel_rfl
theorem m63:B7 Try.prog Try.f63 Cd.a63 = true:= by kernel_rfl
theorem m64:B7 Try.prog Try.f64 Cd.a64 = true:= by kernel_rfl
theorem m65:B7 Try.prog Try.f65 Cd.a65 = true:= by kernel_rfl
theorem m66:B7 Try.prog Try.f66 Cd.a66 = true:= by kernel_rfl
theorem m67:B7 Try.prog Try.f67 Cd.a67 = true:= by kernel_rfl
theorem m68:B7 Try.prog Try.f68 Cd.a68 = true:= by kernel_rfl
theorem m69:B7 Try.prog Try.f69 Cd.a69 = true:= by kernel_rfl
theorem m70:B7 Try.prog Try.f70 Cd.a70 = true:= by kernel_rfl
theorem m71:B7 Try.prog Try.f71 Cd.a71 = true:= by kernel_rfl
theorem m72:B7 Try.prog Try.f72 Cd.a72 = true:= by kernel_rfl
theorem m73:B7 Try.prog Try.f73 Cd.a73 = true:= by kernel_rfl
theorem m74:B7 Try.prog Try.f74 Cd.a74 = true:= by kernel_rfl
theorem m75:B7 Try.prog Try.f75 Cd.a75 = true:= by kernel_rfl
theorem m76:B7 Try.prog Try.f76 Cd.a76 = true:= by kernel_rfl
theorem m77:B7 Try.prog Try.f77 Cd.a77 = true:= by kernel_rfl
theorem m78:B7 Try.prog Try.f78 Cd.a78 = true:= by kernel_rfl
theorem m79:B7 Try.prog Try.f79 Cd.a79 = true:= by kernel_rfl
theorem m80:B7 Try.prog Try.f80 Cd.a80 = true:= by kernel_rfl
theorem m81:B7 Try.prog Try.f81 Cd.a81 = true:= by kernel_rfl
theorem m82:B7 Try.prog Try.f82 Cd.a82 = true:= by kernel_rfl
theorem m83:B7 Try.prog Try.f83 Cd.a83 = true:= by kernel_rfl
theorem m84:B7 Try.prog Try.f84 Cd.a84 = true:= by kernel_rfl
theorem m85:B7 Try.prog Try.f85 Cd.a85 = true:= by kernel_rfl
theorem m86:B7 Try.prog Try.f86 Cd.a86 = true:= by kernel_rfl
theorem m87:B7 Try.prog Try.f87 Cd.a87 = true:= by kernel_rfl
theorem m88:B7 Try.prog Try.f88 Cd.a88 = true:= by kernel_rfl
theorem m90:B7 Try.prog Try.f90 Cd.a90 = true:= by kernel_rfl
theorem m91:B7 Try.prog Try.f91 Cd.a91 = true:= by kernel_rfl
theorem m92:B7 Try.prog Try.f92 Cd.a92 = true:= by kernel_rfl
theorem m93:B7 Try.prog Try.f93 Cd.a93 = true:= by kernel_rfl
theorem m94:B7 Try.prog Try.f94 Cd.a94 = true:= by kernel_rfl
theorem m95:B7 Try.prog Try.f95 Cd.a95 = true:= by kernel_rfl
theorem m96:B7 Try.prog Try.f96 Cd.a96 = true:= by kernel_rfl
theorem m97:B7 Try.prog Try.f97 Cd.a97 = true:= by kernel_rfl
theorem m98:B7 Try.prog Try.f98 Cd.a98 = true:= by kernel_rfl
theorem m99:B7 Try.prog Try.f99 Cd.a99 = true:= by kernel_rfl
theorem m100:B7 Try.prog Try.f100 Cd.a100 = true:= by kernel_rfl
theorem m101:B7 Try.prog Try.f101 Cd.a101 = true:= by kernel_rfl
theorem m102:B7 Try.prog Try.f102 Cd.a102 = true:= by kernel_rfl
theorem m103:B7 Try.prog Try.f103 Cd.a103 = true:= by kernel_rfl
theorem m104:B7 Try.prog Try.f104 Cd.a104 = true:= by kernel_rfl
theorem m105:B7 Try.prog Try.f105 Cd.a105 = true:= by kernel_rfl
theorem D4n:B6f Try.prog Cd.tab:= by
 intro i af h
 unfold Cd.tab at h
 split at h
 ·cases h; exact ⟨Try.f4,Try.func4,m4⟩
 ·cases h; exact ⟨Try.f7,Try.func7,m7⟩
 ·cases h; exact ⟨Try.f8,Try.func8,m8⟩
 ·cases h; exact ⟨Try.f9,Try.func9,m9⟩
 ·cases h; exact ⟨Try.f10,Try.func10,m10⟩
 ·cases h; exact ⟨Try.f11,Try.func11,m11⟩
 ·cases h; exact ⟨Try.f12,Try.func12,m12⟩
 ·cases h; exact ⟨Try.f13,Try.func13,m13⟩
 ·cases h; exact ⟨Try.f14,Try.func14,m14⟩
 ·cases h; exact ⟨Try.f15,Try.func15,m15⟩
 ·cases h; exact ⟨Try.f16,Try.func16,m16⟩
 ·cases h; exact ⟨Try.f17,Try.func17,m17⟩
 ·cases h; exact ⟨Try.f18,Try.func18,m18⟩
 ·cases h; exact ⟨Try.f21,Try.func21,m21⟩
 ·cases h; exact ⟨Try.f22,Try.func22,m22⟩
 ·cases h; exact ⟨Try.f23,Try.func23,m23⟩
 ·cases h; exact ⟨Try.f24,Try.func24,m24⟩
 ·cases h; exact ⟨Try.f25,Try.func25,m25⟩
 ·cases h; exact ⟨Try.f26,Try.func26,m26⟩
 ·cases h; exact ⟨Try.f27,Try.func27,m27⟩
 ·cases h; exact ⟨Try.f28,Try.func28,m28⟩
 ·cases h; exact ⟨Try.f29,Try.func29,m29⟩
 ·cases h; exact ⟨Try.f30,Try.func30,m30⟩
 ·cases h; exact ⟨Try.f31,Try.func31,m31⟩
 ·cases h; exact ⟨Try.f32,Try.func32,m32⟩
 ·cases h; exact ⟨Try.f33,Try.func33,m33⟩
 ·cases h; exact ⟨Try.f34,Try.func34,m34⟩
 ·cases h; exact ⟨Try.f35,Try.func35,m35⟩
 ·cases h; exact ⟨Try.f36,Try.func36,m36⟩
 ·cases h; exact ⟨Try.f37,Try.func37,m37⟩
 ·cases h; exact ⟨Try.f38,Try.func38,m38⟩
 ·cases h; exact ⟨Try.f39,Try.func39,m39⟩
 ·cases h; exact ⟨Try.f40,Try.func40,m40⟩
 ·cases h; exact ⟨Try.f41,Try.func41,m41⟩
 ·cases h; exact ⟨Try.f42,Try.func42,m42⟩
 ·cases h; exact ⟨Try.f43,Try.func43,m43⟩
 ·cases h; exact ⟨Try.f44,Try.func44,m44⟩
 ·cases h; exact ⟨Try.f45,Try.func45,m45⟩
 ·cases h; exact ⟨Try.f46,Try.func46,m46⟩
 ·cases h; exact ⟨Try.f47,Try.func47,m47⟩
 ·cases h; exact ⟨Try.f48,Try.func48,m48⟩
 ·cases h; exact ⟨Try.f49,Try.func49,m49⟩
 ·cases h; exact ⟨Try.f50,Try.func50,m50⟩
 ·cases h; exact ⟨Try.f51,Try.func51,m51⟩
 ·cases h; exact ⟨Try.f52,Try.func52,m52⟩
 ·cases h; exact ⟨Try.f53,Try.func53,m53⟩
 ·cases h; exact ⟨Try.f54,Try.func54,m54⟩
 ·cases h; exact ⟨Try.f55,Try.func55,m55⟩
 ·cases h; exact ⟨Try.f56,Try.func56,m56⟩
 ·cases h; exact ⟨Try.f57,Try.func57,m57⟩
 ·cases h; exact ⟨Try.f58,Try.func58,m58⟩
 ·cases h; exact ⟨Try.f59,Try.func59,m59⟩
 ·cases h; exact ⟨Try.f60,Try.func60,m60⟩
 ·cases h; exact ⟨Try.f61,Try.func61,m61⟩
 ·cases h; exact ⟨Try.f62,Try.func62,m62⟩
 ·cases h; exact ⟨Try.f63,Try.func63,m63⟩
 ·cases h; exact ⟨Try.f64,Try.func64,m64⟩
 ·cases h; exact ⟨Try.f65,Try.func65,m65⟩
 ·cases h; exact ⟨Try.f66,Try.func66,m66⟩
 ·cases h; exact ⟨Try.f67,Try.func67,m67⟩
 ·cases h; exact ⟨Try.f68,Try.func68,m68⟩
 ·cases h; exact ⟨Try.f69,Try.func69,m69⟩
 ·cases h; exact ⟨Try.f70,Try.func70,m70⟩
 ·cases h; exact ⟨Try.f71,Try.func71,m71⟩
 ·cases h; exact ⟨Try.f72,Try.func72,m72⟩
 ·cases h; exact ⟨Try.f73,Try.func73,m73⟩
 ·cases h; exact ⟨Try.f74,Try.func74,m74⟩
 ·cases h; exact ⟨Try.f75,Try.func75,m75⟩
 ·cases h; exact ⟨Try.f76,Try.func76,m76⟩
 ·cases h; exact ⟨Try.f77,Try.func77,m77⟩
 ·cases h; exact ⟨Try.f78,Try.func78,m78⟩
 ·cases h; exact ⟨Try.f79,Try.func79,m79⟩
 ·cases h; exact ⟨Try.f80,Try.func80,m80⟩
 ·cases h; exact ⟨Try.f81,Try.func81,m81⟩
 ·cases h; exact ⟨Try.f82,Try.func82,m82⟩
 ·cases h; exact ⟨Try.f83,Try.func83,m83⟩
 ·cases h; exact ⟨Try.f84,Try.func84,m84⟩
 ·cases h; exact ⟨Try.f85,Try.func85,m85⟩
 ·cases h; exact ⟨Try.f86,Try.func86,m86⟩
 ·cases h; exact ⟨Try.f87,Try.func87,m87⟩
 ·cases h; exact ⟨Try.f88,Try.func88,m88⟩
 ·cases h; exact ⟨Try.f90,Try.func90,m90⟩
 ·cases h; exact ⟨Try.f91,Try.func91,m91⟩
 ·cases h; exact ⟨Try.f92,Try.func92,m92⟩
 ·cases h; exact ⟨Try.f93,Try.func93,m93⟩
 ·cases h; exact ⟨Try.f94,Try.func94,m94⟩
 ·cases h; exact ⟨Try.f95,Try.func95,m95⟩
 ·cases h; exact ⟨Try.f96,Try.func96,m96⟩
 ·cases h; exact ⟨Try.f97,Try.func97,m97⟩
 ·cases h; exact ⟨Try.f98,Try.func98,m98⟩
 ·cases h; exact ⟨Try.f99,Try.func99,m99⟩
 ·cases h; exact ⟨Try.f100,Try.func100,m100⟩
 ·cases h; exact ⟨Try.f101,Try.func101,m101⟩
 ·cases h; exact ⟨Try.f102,Try.func102,m102⟩
 ·cases h; exact ⟨Try.f103,Try.func103,m103⟩
 ·cases h; exact ⟨Try.f104,Try.func104,m104⟩
 ·cases h; exact ⟨Try.f105,Try.func105,m105⟩
 ·cases h
end Go.Proofs.Ytjpjdglddmhplaa
end
section
set_option maxRecDepth 100000
set_option maxHeartbeats 0
namespace Pw
open Go Am Go.Proofs.Ytjpjdglddmhplaa.Cd
structure PaGown where
 mk ::
 (Name:ByteArray)
 (Looks:Int)
 (Pawn:Bool)
 (Loan:Int)
 (Rate:Int)
 (Fee:Int)
 (Ago:Int)
 (Last:Int)
 deriving DecidableEq
def C1 (x:PaGown):List AV:=[.s x.Name,.i x.Looks,.b x.Pawn,.i x.Loan,.i x.Rate,.i x.Fee,.i x.Ago,.i x.Last]
structure PaFigure where
 mk ::
 (Name:ByteArray)
 (Day:Int)
 (Until:Int)
 (Needs:Int)
 deriving DecidableEq
def B2 (x:PaFigure):List AV:=[.s x.Name,.i x.Day,.i x.Until,.i x.Needs]
structure PaIncome where
 mk ::
 (Day:Int)
 (Pence:Int)
 deriving DecidableEq
def D2 (x:PaIncome):List AV:=[.i x.Day,.i x.Pence]
structure PaShow where
 mk ::
 (Gowns:(List PaGown))
 (Figures:(List PaFigure))
 (Purse:Int)
 (Incomes:(List PaIncome))
 deriving DecidableEq
def C0 (x:PaShow):List AV:=[(.seq 8 (List.map C1 x.Gowns)),(.seq 4 (List.map B2 x.Figures)),.i x.Purse,(.seq 2 (List.map D2 x.Incomes))]
structure PaUse where
 mk ::
 (Gown:Int)
 (How:Int)
 (Day:Int)
 deriving DecidableEq
def B1 (x:PaUse):List AV:=[.i x.Gown,.i x.How,.i x.Day]
structure pawn_way where
 mk ::
 deriving DecidableEq
structure pawn_show where
 mk ::
 (PaShow:PaShow)
 (ways_:(Ar3 pawn_way))
 (days_:(List Int))
 deriving DecidableEq
structure pawn_found where
 mk ::
 (plan_:(List PaUse))
 (without_:Int)
 (cost_:Int)
 (short_:Int)
 (had_:(Ar3 Int))
 deriving DecidableEq
def B6 (x:pawn_found):List AV:=[(.seq 3 (List.map B1 x.plan_)),.i x.without_,.i x.cost_,.i x.short_,.i x.had_.x0,.i x.had_.x1,.i x.had_.x2]
structure law04_Richer where
 mk ::
 (Purse:Int)
 (Rate:Int)
 (Fee:Int)
 (Last:Int)
 (Income:PaIncome)
 (Gown:PaGown)
 deriving DecidableEq
def Y4 (a0:(List ByteArray)) (a1:ByteArray) (s1:Int):Option (Int ⊕ (Int ⊕ Unit)) :=
 if (decide (s1 < (List.length a0:Int))) = true then
  (idx a0 s1).bind fun x4 =>
  if (eqS x4 a1) = true then
  some (.inr (.inl s1))
  else
  some (.inl (w64 (s1 + 1)))
 else
  some (.inr (.inr ()))
def A31 (a0:(List ByteArray)) (a1:ByteArray):Option Int :=
 (loop (Y4 a0 a1) 0).bind fun (o6:(Int ⊕ Unit)) =>
 match o6 with
 | (.inl vo6_0) =>
  some vo6_0
 | (.inr vo6_1) =>
  some (-1)
theorem B4x {c:Sc} {H:A1} {a0:(List ByteArray)} {a1:ByteArray} {r:Int} (h:A31 a0 a1 = some r) :
  E8 tab c H (.fn (.func 76) [] []) [(.seq 1 (List.map cS a0)),.s a1] [.i r]:= by
 unfold A31 at h
 refine cE rfl rfl<|s0<|qm rfl<|es (ra2 rfl rfl)<|C6<|s0<|qm rfl<|es (ra3 rfl rfl rfl)<|C9<|oB h fun o6 ho6 h=>wl (fun s1=>[(0,(.seq 1 (List.map cS a0))),(1,.s a1),(5,.i s1)]) (fun (q2:Unit) s1=>[]) 0 (fun r e s' H'=>(match r with | (.inl v)=>e = .ret∧RetQ H [.tmp 4] [.i v] e s' H' | (.inr v)=>PX 0 [] (H++[]) e s' H':Prop)) () ho6 rfl rfl (fun _ _=>rfl) (fun _=>rfl) rfl (fun s1=>(bdc M4 (bdc A5 (bdc A5 bdn)))) (fun q2 s1 ys1 hs1=>?_) ?_
 ·unfold Y4 at hs1
  refine C6<|s0<|qm rfl<|qm rfl<|A0 (G7 (f:=cS) rfl) rfl<|A0 (L4 rfl rfl) rfl<|es (ra4 rfl rfl rfl rfl)<|wi hs1 rfl (fun hc3 hs1=>?_) fun hc3 hs1=>?_
  ·refine C7<|C6<|C9<|s0<|oB hs1 fun x4 hx4 hs1=>qm rfl<|qm rfl<|A0 (G6 (f:=cS) rfl rfl hx4) rfl<|A0 (T5 rfl rfl) rfl<|qm rfl<|A0 (C6l rfl rfl) rfl<|es (ra4 rfl rfl rfl rfl)<|wi hs1 rfl (fun hc5 hs1=>?_) fun hc5 hs1=>?_
   ·refine s0<|qm rfl<|qm rfl<|es (ra1 rfl)<|C8 ?_
    obtain rfl:=os hs1
    exact lx rfl (And.intro rfl (retq trivial (A6 rfl B9) (A4 rfl B8) (A3 A5 A8))) (Sub.refl _)
   ·refine C7<|r0<|qm rfl<|A0 (G1 rfl rfl) rfl<|qm rfl<|en (ra3 rfl rfl rfl) ?_
    cases hs1
    exact lnT () rfl (su3 rfl rfl rfl)
  ·refine J4 ?_
   obtain rfl:=os hs1
   exact lx rfl px (.nil _)
 ·rcases o6 with vo6_0 | vo6_1
  ·rintro e s' H' - ⟨rfl,hret⟩
   cases h
   exact hret
  ·rintro e s' H' - ⟨rfl,rfl,rfl⟩
   refine s0<|qm rfl<|es (ra1 rfl)<|C8 ?_
   obtain rfl:=os h
   exact retq trivial (A6 rfl B9) (A4 rfl B8) (A3 A5 A8)
def A1e (a0:Int) (a1:Int) (a2:Int):Option Bool :=
 some ((decide (a0 ≥ a1)) && (decide (a0≤a2)))
theorem A56 {c:Sc} {H:A1} {a0:Int} {a1:Int} {a2:Int} {r:Bool} (h:A1e a0 a1 a2 = some r) :
  E8 tab c H (.fn (.func 96) [] []) [.i a0,.i a1,.i a2] [.b r]:= by
 unfold A1e at h
 refine cE rfl rfl<|s0<|qm rfl<|es (ra3 rfl rfl rfl)<|s0<|qm rfl<|qm rfl<|A0 (A50 rfl rfl) rfl<|qm rfl<|gp 4 14 (.b ((decide (a0 ≥ a1)) && (decide (a0≤a2)))) 10 rfl rfl (fun hg1=>?_) (fun hg1=>?_) ?_
 ·exact gT rfl hg1<|qm rfl<|gT rfl hg1<|qm rfl<|gT rfl hg1<|A0 (A4j rfl rfl) rfl<|A0 (C4 rfl hg1 rfl) rfl<|ge 4 (by rw [hg1]; rfl) rfl rfl
 ·exact nT rfl hg1 rfl<|nT rfl hg1 rfl<|nT rfl hg1 rfl<|A0 (C3 rfl hg1 rfl) rfl<|ge 4 (by rw [hg1]; rfl) rfl rfl
 refine qm rfl<|es (ra1 rfl)<|C8 ?_
 obtain rfl:=os h
 exact retq trivial (A6 rfl B9) (A4 rfl B8) (A3 A5 A8)
def A0k (a0:ByteArray) (s3:Int):Option (Int ⊕ (Bool ⊕ Unit)) :=
 if (decide (s3 < (ByteArray.size a0:Int))) = true then
  (B0m a0 s3).bind fun x6 =>
  (A1e (w64 x6) 97 122).bind fun x7 =>
  (B0m a0 s3).bind fun x8 =>
  (A1e (w64 x8) 48 57).bind fun x9 =>
  (if x9 = true then
  some true
  else
  (B0m a0 s3).bind fun x11 =>
  some (x11 == 46)).bind fun x12 =>
  if ((!x7) && ((s3 == 0) || (!x12))) = true then
  some (.inr (.inl false))
  else
  some (.inl (w64 (s3 + 1)))
 else
  some (.inr (.inr ()))
def A3j (a0:ByteArray):Option Bool :=
 if (((ByteArray.size a0:Int) == 0) || (decide ((ByteArray.size a0:Int) > 16))) = true then
  some false
 else
  (loop (A0k a0) 0).bind fun (o16:(Bool ⊕ Unit)) =>
  match o16 with
  | (.inl vo16_0) =>
  some vo16_0
  | (.inr vo16_1) =>
  some true
theorem B55 {c:Sc} {H:A1} {a0:ByteArray} {r:Bool} (h:A3j a0 = some r) :
  E8 tab c H (.fn (.func 75) [] []) [.s a0] [.b r]:= by
 unfold A3j at h
 refine cE rfl rfl<|s0<|qm rfl<|es (ra1 rfl)<|C6<|s0<|qm rfl<|A0 (B8s rfl) rfl<|A0 (F8 rfl rfl) rfl<|qm rfl<|gp 4 13 (.b (((ByteArray.size a0:Int) == 0) || (decide ((ByteArray.size a0:Int) > 16)))) 9 rfl rfl (fun hg1=>?_) (fun hg1=>?_) ?_
 ·exact nF rfl hg1 rfl<|nF rfl hg1 rfl<|nF rfl hg1 rfl<|A0 (C4 rfl hg1 rfl) rfl<|ge 4 (by rw [hg1]; rfl) rfl rfl
 ·exact gF rfl hg1<|qm rfl<|gF rfl hg1<|A0 (B8s rfl) rfl<|gF rfl hg1<|A0 (A06 rfl rfl) rfl<|A0 (C3 rfl hg1 rfl) rfl<|ge 4 (by rw [hg1]; rfl) rfl rfl
 refine es (ra2 rfl rfl)<|wi h rfl (fun hc2 h=>?_) fun hc2 h=>?_
 ·refine s0<|qm rfl<|es (ra1 rfl)<|C8 ?_
  obtain rfl:=os h
  exact retq trivial (A6 rfl B9) (A4 rfl B8) (A3 A5 A8)
 ·refine C7<|C6<|s0<|qm rfl<|es (ra2 rfl rfl)<|C9<|oB h fun o16 ho16 h=>wl (fun s3=>[(0,.s a0),(3,.i s3)]) (fun (q4:Unit) s3=>[]) 0 (fun r e s' H'=>(match r with | (.inl v)=>e = .ret∧RetQ H [.tmp 2] [.b v] e s' H' | (.inr v)=>PX 0 [] (H++[]) e s' H':Prop)) () ho16 rfl rfl (fun _ _=>rfl) (fun _=>rfl) rfl (fun s3=>(bdc A5 (bdc A5 bdn))) (fun q4 s3 ys3 hs3=>?_) ?_
  ·unfold A0k at hs3
   refine C6<|s0<|qm rfl<|qm rfl<|A0 (B8s rfl) rfl<|A0 (L4 rfl rfl) rfl<|es (ra3 rfl rfl rfl)<|wi hs3 rfl (fun hc5 hs3=>?_) fun hc5 hs3=>?_
   ·refine C7<|C6<|C9<|s0<|oB hs3 fun x6 hx6 hs3=>oB hs3 fun x7 hx7 hs3=>qm rfl<|qm rfl<|A0 (A6u rfl rfl hx6) rfl<|A0 (A39 rfl) rfl<|B5 (rs:=[.b x7]) rfl rfl (A2 rfl (A2 rfl (A2 rfl B3))) ((A56 hx7).frz)<|qm rfl<|es (ra3 rfl rfl rfl)<|s0<|oB hs3 fun x8 hx8 hs3=>oB hs3 fun x9 hx9 hs3=>oB hs3 fun x12 hx12 hs3=>qm rfl<|qm rfl<|A0 (A6u rfl rfl hx8) rfl<|A0 (A39 rfl) rfl<|B5 (rs:=[.b x9]) rfl rfl (A2 rfl (A2 rfl (A2 rfl B3))) ((A56 hx9).frz)<|qm rfl<|gp 5 35 (.b x12) 30 rfl rfl (fun hg10=>?_) (fun hg10=>?_) ?_
    ·obtain rfl:=os (bt hx12 hg10)
     exact nF rfl hg10 rfl<|nF rfl hg10 rfl<|nF rfl hg10 rfl<|nF rfl hg10 rfl<|A0 (C4 rfl hg10 rfl) rfl<|ge 5 rfl rfl rfl
    ·refine oB (bf hx12 hg10) fun x11 hx11 hx12=>?_
     obtain rfl:=os hx12
     exact gF rfl hg10<|qm rfl<|gF rfl hg10<|qm rfl<|gF rfl hg10<|A0 (A6u rfl rfl hx11) rfl<|gF rfl hg10<|A0 (F8 rfl rfl) rfl<|A0 (C3 rfl hg10 rfl) rfl<|ge 5 rfl rfl rfl
    refine qm rfl<|es (ra4 rfl rfl rfl rfl)<|s0<|qm rfl<|A0 (U5 rfl) rfl<|qm rfl<|gp 7 45 (.b ((!x7) && ((s3 == 0) || (!x12)))) 38 rfl rfl (fun hg13=>?_) (fun hg13=>?_) ?_
    ·refine gT rfl hg13<|qm rfl<|gT rfl hg13<|A0 (F8 rfl rfl) rfl<|gT rfl hg13<|qm rfl<|gq 3 44 (.b ((s3 == 0) || (!x12))) 41 rfl rfl (fun hg14=>?_) (fun hg14=>?_) ?_
     ·exact nF rfl hg14 rfl<|nF rfl hg14 rfl<|gT rfl hg13<|A0 (C4 rfl hg14 rfl) rfl<|ge 3 (by rw [hg14]; rfl) rfl rfl
     ·exact gF rfl hg14<|qm rfl<|gF rfl hg14<|A0 (U5 rfl) rfl<|gT rfl hg13<|A0 (C3 rfl hg14 rfl) rfl<|ge 3 (by rw [hg14]; rfl) rfl rfl
     exact A0 (C4 rfl hg13 rfl) rfl<|ge 5 (by rw [hg13]; rfl) rfl rfl
    ·exact nT rfl hg13 rfl<|nT rfl hg13 rfl<|nT rfl hg13 rfl<|nX rfl rfl<|nX rfl rfl<|nT rfl hg13 rfl<|A0 (C3 rfl hg13 rfl) rfl<|ge 7 (by rw [hg13]; rfl) rfl rfl
    refine es (ra3 rfl rfl rfl)<|wi hs3 rfl (fun hc15 hs3=>?_) fun hc15 hs3=>?_
    ·refine s0<|qm rfl<|es (ra1 rfl)<|C8 ?_
     obtain rfl:=os hs3
     exact lx rfl (And.intro rfl (retq trivial (A6 rfl B9) (A4 rfl B8) (A3 A5 A8))) (Sub.refl _)
    ·refine C7<|r0<|qm rfl<|A0 (G1 rfl rfl) rfl<|qm rfl<|en (ra2 rfl rfl) ?_
     cases hs3
     exact lnT () rfl (su2 rfl rfl)
   ·refine J4 ?_
    obtain rfl:=os hs3
    exact lx rfl px (.nil _)
  ·rcases o16 with vo16_0 | vo16_1
   ·rintro e s' H' - ⟨rfl,hret⟩
    cases h
    exact hret
   ·rintro e s' H' - ⟨rfl,rfl,rfl⟩
    refine s0<|qm rfl<|es (ra1 rfl)<|C8 ?_
    obtain rfl:=os h
    exact retq trivial (A6 rfl B9) (A4 rfl B8) (A3 A5 A8)
def A21 (a0:ByteArray) (a1:(List ByteArray)):Option Int :=
 (A3j a0).bind fun x1 =>
 if (!x1) = true then
  some 6
 else
  (A31 a1 a0).bind fun x3 =>
  if (decide (x3 ≥ 0)) = true then
  some 5
  else
  some 0
theorem A93 {c:Sc} {H:A1} {a0:ByteArray} {a1:(List ByteArray)} {r:Int} (h:A21 a0 a1 = some r) :
  E8 tab c H (.fn (.func 58) [] []) [.s a0,(.seq 1 (List.map cS a1))] [.i r]:= by
 unfold A21 at h
 refine cE rfl rfl<|s0<|qm rfl<|es (ra2 rfl rfl)<|C6<|s0<|oB h fun x1 hx1 h=>qm rfl<|B5 (rs:=[.b x1]) rfl rfl (A2 rfl B3) ((B55 hx1).frz)<|A0 (U5 rfl) rfl<|es (ra3 rfl rfl rfl)<|wi h rfl (fun hc2 h=>?_) fun hc2 h=>?_
 ·refine s0<|qm rfl<|es (ra1 rfl)<|C8 ?_
  obtain rfl:=os h
  exact retq trivial (A6 rfl B9) (A4 rfl B8) (A3 A5 A8)
 ·refine C7<|C6<|s0<|oB h fun x3 hx3 h=>qm rfl<|qm rfl<|B5 (rs:=[.i x3]) rfl rfl (A2 rfl (A2 rfl B3)) ((B4x hx3).frz)<|A0 (A50 rfl rfl) rfl<|es (ra1 rfl)<|wi h rfl (fun hc4 h=>?_) fun hc4 h=>?_
  ·refine s0<|qm rfl<|es (ra1 rfl)<|C8 ?_
   obtain rfl:=os h
   exact retq trivial (A6 rfl B9) (A4 rfl B8) (A3 A5 A8)
  ·refine C7<|s0<|qm rfl<|es (ra1 rfl)<|C8 ?_
   obtain rfl:=os h
   exact retq trivial (A6 rfl B9) (A4 rfl B8) (A3 A5 A8)
def P2 (a0:Int) (a1:Int) (a2:Int):Option Bool :=
 some ((decide (a0 ≥ a1)) && (decide (a0≤a2)))
theorem M9 {c:Sc} {H:A1} {a0:Int} {a1:Int} {a2:Int} {r:Bool} (h:P2 a0 a1 a2 = some r) :
  E8 tab c H (.fn (.func 61) [] []) [.i a0,.i a1,.i a2] [.b r]:= by
 unfold P2 at h
 refine cE rfl rfl<|s0<|qm rfl<|es (ra3 rfl rfl rfl)<|s0<|qm rfl<|qm rfl<|A0 (A50 rfl rfl) rfl<|qm rfl<|gp 4 14 (.b ((decide (a0 ≥ a1)) && (decide (a0≤a2)))) 10 rfl rfl (fun hg1=>?_) (fun hg1=>?_) ?_
 ·exact gT rfl hg1<|qm rfl<|gT rfl hg1<|qm rfl<|gT rfl hg1<|A0 (A4j rfl rfl) rfl<|A0 (C4 rfl hg1 rfl) rfl<|ge 4 (by rw [hg1]; rfl) rfl rfl
 ·exact nT rfl hg1 rfl<|nT rfl hg1 rfl<|nT rfl hg1 rfl<|A0 (C3 rfl hg1 rfl) rfl<|ge 4 (by rw [hg1]; rfl) rfl rfl
 refine qm rfl<|es (ra1 rfl)<|C8 ?_
 obtain rfl:=os h
 exact retq trivial (A6 rfl B9) (A4 rfl B8) (A3 A5 A8)
def A1f (a0:PaFigure):Option Int :=
 (P2 a0.Day 0 364).bind fun x1 =>
 (if (!x1) = true then
  some true
 else
  (P2 a0.Until 0 364).bind fun x3 =>
  some (!x3)).bind fun x4 =>
 (if x4 = true then
  some true
 else
  (P2 a0.Needs 0 15).bind fun x6 =>
  some (!x6)).bind fun x7 =>
 if x7 = true then
  some 7
 else
  if (decide (a0.Day > a0.Until)) = true then
  some 2
  else
  some 0
theorem B25 {c:Sc} {H:A1} {a0:PaFigure} {r:Int} (h:A1f a0 = some r) :
  E8 tab c H (.fn (.func 60) [] []) [(.agg (B2 a0))] [.i r]:= by
 unfold A1f at h
 refine cE rfl rfl<|sg 0 rfl<|A0 (F7 (cs:=B2 a0) rfl rfl rfl) rfl<|qm rfl<|es (ra1 rfl)<|C6<|s0<|oB h fun x1 hx1 h=>oB h fun x4 hx4 h=>oB h fun x7 hx7 h=>A0 (C2 rfl) rfl<|A0 (B4 rfl rfl rfl) rfl<|B5 (rs:=[.b x1]) rfl rfl (A2 rfl (A2 rfl (A2 rfl B3))) ((M9 hx1).frz)<|A0 (U5 rfl) rfl<|qm rfl<|gp 5 12 (.b x4) 7 rfl rfl (fun hg2=>?_) (fun hg2=>?_) ?_
 ·obtain rfl:=os (bt hx4 hg2)
  exact nF rfl hg2 rfl<|nF rfl hg2 rfl<|H8 (D9 rfl (by rw [hg2]; rfl)) rfl<|nF rfl hg2 rfl<|A0 (C4 rfl hg2 rfl) rfl<|ge 5 rfl rfl rfl
 ·refine oB (bf hx4 hg2) fun x3 hx3 hx4=>?_
  obtain rfl:=os hx4
  exact gF rfl hg2<|A0 (C2 rfl) rfl<|gF rfl hg2<|A0 (B4 rfl rfl rfl) rfl<|gF rfl hg2<|B5 (rs:=[.b x3]) rfl rfl (A2 rfl (A2 rfl (A2 rfl B3))) ((M9 hx3).frz)<|gF rfl hg2<|A0 (U5 rfl) rfl<|A0 (C3 rfl hg2 rfl) rfl<|ge 5 rfl rfl rfl
 refine qm rfl<|gp 5 18 (.b x7) 13 rfl rfl (fun hg5=>?_) (fun hg5=>?_) ?_
 ·obtain rfl:=os (bt hx7 hg5)
  exact nF rfl hg5 rfl<|nF rfl hg5 rfl<|H8 (D9 rfl (by rw [hg5]; rfl)) rfl<|nF rfl hg5 rfl<|A0 (C4 rfl hg5 rfl) rfl<|ge 5 rfl rfl rfl
 ·refine oB (bf hx7 hg5) fun x6 hx6 hx7=>?_
  obtain rfl:=os hx7
  exact gF rfl hg5<|A0 (C2 rfl) rfl<|gF rfl hg5<|A0 (B4 rfl rfl rfl) rfl<|gF rfl hg5<|B5 (rs:=[.b x6]) rfl rfl (A2 rfl (A2 rfl (A2 rfl B3))) ((M9 hx6).frz)<|gF rfl hg5<|A0 (U5 rfl) rfl<|A0 (C3 rfl hg5 rfl) rfl<|ge 5 rfl rfl rfl
 refine es (ra2 rfl rfl)<|wi h rfl (fun hc8 h=>?_) fun hc8 h=>?_
 ·refine s0<|qm rfl<|es (ra1 rfl)<|C8 ?_
  obtain rfl:=os h
  exact retq trivial (A6 rfl B9) (A4 rfl B8) (A3 A5 A8)
 ·refine C7<|C6<|s0<|A0 (C2 rfl) rfl<|A0 (B4 rfl rfl rfl) rfl<|A0 (C2 rfl) rfl<|A0 (B4 rfl rfl rfl) rfl<|A0 (A06 rfl rfl) rfl<|es (ra1 rfl)<|wi h rfl (fun hc9 h=>?_) fun hc9 h=>?_
  ·refine s0<|qm rfl<|es (ra1 rfl)<|C8 ?_
   obtain rfl:=os h
   exact retq trivial (A6 rfl B9) (A4 rfl B8) (A3 A5 A8)
  ·refine C7<|s0<|qm rfl<|es (ra1 rfl)<|C8 ?_
   obtain rfl:=os h
   exact retq trivial (A6 rfl B9) (A4 rfl B8) (A3 A5 A8)
def A3k (a0:PaGown):Option Bool :=
 (P2 a0.Looks 0 15).bind fun x1 =>
 if (!x1) = true then
  some false
 else
  if (!a0.Pawn) = true then
  some (((((a0.Loan == 0) && (a0.Rate == 0)) && (a0.Fee == 0)) && (a0.Ago == 0)) && (a0.Last == 0))
  else
  (P2 a0.Loan 0 5000).bind fun x8 =>
  (if x8 = true then
   (P2 a0.Rate 0 500).bind fun x10 =>
   some x10
  else
   some false).bind fun x11 =>
  (if x11 = true then
   (P2 a0.Fee 0 100).bind fun x13 =>
   some x13
  else
   some false).bind fun x14 =>
  (if x14 = true then
   (P2 a0.Ago 0 364).bind fun x16 =>
   some x16
  else
   some false).bind fun x17 =>
  (if x17 = true then
   (P2 a0.Last 0 364).bind fun x19 =>
   some x19
  else
   some false).bind fun x20 =>
  some x20
theorem B56 {c:Sc} {H:A1} {a0:PaGown} {r:Bool} (h:A3k a0 = some r) :
  E8 tab c H (.fn (.func 59) [] []) [(.agg (C1 a0))] [.b r]:= by
 unfold A3k at h
 refine cE rfl rfl<|sg 0 rfl<|A0 (F7 (cs:=C1 a0) rfl rfl rfl) rfl<|qm rfl<|es (ra1 rfl)<|C6<|s0<|oB h fun x1 hx1 h=>A0 (C2 rfl) rfl<|A0 (B4 rfl rfl rfl) rfl<|B5 (rs:=[.b x1]) rfl rfl (A2 rfl (A2 rfl (A2 rfl B3))) ((M9 hx1).frz)<|A0 (U5 rfl) rfl<|es (ra2 rfl rfl)<|wi h rfl (fun hc2 h=>?_) fun hc2 h=>?_
 ·refine s0<|qm rfl<|es (ra1 rfl)<|C8 ?_
  obtain rfl:=os h
  exact retq trivial (A6 rfl B9) (A4 rfl B8) (A3 A5 A8)
 ·refine C7<|C6<|s0<|A0 (C2 rfl) rfl<|A0 (B4 rfl rfl rfl) rfl<|A0 (U5 rfl) rfl<|es (ra2 rfl rfl)<|wi h rfl (fun hc3 h=>?_) fun hc3 h=>?_
  ·refine s0<|A0 (C2 rfl) rfl<|A0 (B4 rfl rfl rfl) rfl<|A0 (F8 rfl rfl) rfl<|qm rfl<|gp 4 17 (.b ((a0.Loan == 0) && (a0.Rate == 0))) 13 rfl rfl (fun hg4=>?_) (fun hg4=>?_) ?_
   ·exact gT rfl hg4<|A0 (C2 rfl) rfl<|gT rfl hg4<|A0 (B4 rfl rfl rfl) rfl<|gT rfl hg4<|A0 (F8 rfl rfl) rfl<|A0 (C4 rfl hg4 rfl) rfl<|ge 4 (by rw [hg4]; rfl) rfl rfl
   ·exact nT rfl hg4 rfl<|nT rfl hg4 rfl<|nT rfl hg4 rfl<|A0 (C3 rfl hg4 rfl) rfl<|ge 4 (by rw [hg4]; rfl) rfl rfl
   refine qm rfl<|gp 4 22 (.b (((a0.Loan == 0) && (a0.Rate == 0)) && (a0.Fee == 0))) 18 rfl rfl (fun hg5=>?_) (fun hg5=>?_) ?_
   ·exact gT rfl hg5<|A0 (C2 rfl) rfl<|gT rfl hg5<|A0 (B4 rfl rfl rfl) rfl<|gT rfl hg5<|A0 (F8 rfl rfl) rfl<|A0 (C4 rfl hg5 rfl) rfl<|ge 4 (by rw [hg5]; rfl) rfl rfl
   ·exact nT rfl hg5 rfl<|nT rfl hg5 rfl<|nT rfl hg5 rfl<|A0 (C3 rfl hg5 rfl) rfl<|ge 4 (by rw [hg5]; rfl) rfl rfl
   refine qm rfl<|gp 4 27 (.b ((((a0.Loan == 0) && (a0.Rate == 0)) && (a0.Fee == 0)) && (a0.Ago == 0))) 23 rfl rfl (fun hg6=>?_) (fun hg6=>?_) ?_
   ·exact gT rfl hg6<|A0 (C2 rfl) rfl<|gT rfl hg6<|A0 (B4 rfl rfl rfl) rfl<|gT rfl hg6<|A0 (F8 rfl rfl) rfl<|A0 (C4 rfl hg6 rfl) rfl<|ge 4 (by rw [hg6]; rfl) rfl rfl
   ·exact nT rfl hg6 rfl<|nT rfl hg6 rfl<|nT rfl hg6 rfl<|A0 (C3 rfl hg6 rfl) rfl<|ge 4 (by rw [hg6]; rfl) rfl rfl
   refine qm rfl<|gp 4 32 (.b (((((a0.Loan == 0) && (a0.Rate == 0)) && (a0.Fee == 0)) && (a0.Ago == 0)) && (a0.Last == 0))) 28 rfl rfl (fun hg7=>?_) (fun hg7=>?_) ?_
   ·exact gT rfl hg7<|A0 (C2 rfl) rfl<|gT rfl hg7<|A0 (B4 rfl rfl rfl) rfl<|gT rfl hg7<|A0 (F8 rfl rfl) rfl<|A0 (C4 rfl hg7 rfl) rfl<|ge 4 (by rw [hg7]; rfl) rfl rfl
   ·exact nT rfl hg7 rfl<|nT rfl hg7 rfl<|nT rfl hg7 rfl<|A0 (C3 rfl hg7 rfl) rfl<|ge 4 (by rw [hg7]; rfl) rfl rfl
   refine qm rfl<|es (ra1 rfl)<|C8 ?_
   obtain rfl:=os h
   exact retq trivial (A6 rfl B9) (A4 rfl B8) (A3 A5 A8)
  ·refine C7<|s0<|oB h fun x8 hx8 h=>oB h fun x11 hx11 h=>oB h fun x14 hx14 h=>oB h fun x17 hx17 h=>oB h fun x20 hx20 h=>A0 (C2 rfl) rfl<|A0 (B4 rfl rfl rfl) rfl<|B5 (rs:=[.b x8]) rfl rfl (A2 rfl (A2 rfl (A2 rfl B3))) ((M9 hx8).frz)<|qm rfl<|gp 4 40 (.b x11) 36 rfl rfl (fun hg9=>?_) (fun hg9=>?_) ?_
   ·refine oB (bt hx11 hg9) fun x10 hx10 hx11=>?_
    obtain rfl:=os hx11
    exact gT rfl hg9<|A0 (C2 rfl) rfl<|gT rfl hg9<|A0 (B4 rfl rfl rfl) rfl<|gT rfl hg9<|B5 (rs:=[.b x10]) rfl rfl (A2 rfl (A2 rfl (A2 rfl B3))) ((M9 hx10).frz)<|A0 (C4 rfl hg9 rfl) rfl<|ge 4 rfl rfl rfl
   ·obtain rfl:=os (bf hx11 hg9)
    exact nT rfl hg9 rfl<|nT rfl hg9 rfl<|H8 (D9 rfl (by rw [hg9]; rfl)) rfl<|A0 (C3 rfl hg9 rfl) rfl<|ge 4 rfl rfl rfl
   refine qm rfl<|gp 4 45 (.b x14) 41 rfl rfl (fun hg12=>?_) (fun hg12=>?_) ?_
   ·refine oB (bt hx14 hg12) fun x13 hx13 hx14=>?_
    obtain rfl:=os hx14
    exact gT rfl hg12<|A0 (C2 rfl) rfl<|gT rfl hg12<|A0 (B4 rfl rfl rfl) rfl<|gT rfl hg12<|B5 (rs:=[.b x13]) rfl rfl (A2 rfl (A2 rfl (A2 rfl B3))) ((M9 hx13).frz)<|A0 (C4 rfl hg12 rfl) rfl<|ge 4 rfl rfl rfl
   ·obtain rfl:=os (bf hx14 hg12)
    exact nT rfl hg12 rfl<|nT rfl hg12 rfl<|H8 (D9 rfl (by rw [hg12]; rfl)) rfl<|A0 (C3 rfl hg12 rfl) rfl<|ge 4 rfl rfl rfl
   refine qm rfl<|gp 4 50 (.b x17) 46 rfl rfl (fun hg15=>?_) (fun hg15=>?_) ?_
   ·refine oB (bt hx17 hg15) fun x16 hx16 hx17=>?_
    obtain rfl:=os hx17
    exact gT rfl hg15<|A0 (C2 rfl) rfl<|gT rfl hg15<|A0 (B4 rfl rfl rfl) rfl<|gT rfl hg15<|B5 (rs:=[.b x16]) rfl rfl (A2 rfl (A2 rfl (A2 rfl B3))) ((M9 hx16).frz)<|A0 (C4 rfl hg15 rfl) rfl<|ge 4 rfl rfl rfl
   ·obtain rfl:=os (bf hx17 hg15)
    exact nT rfl hg15 rfl<|nT rfl hg15 rfl<|H8 (D9 rfl (by rw [hg15]; rfl)) rfl<|A0 (C3 rfl hg15 rfl) rfl<|ge 4 rfl rfl rfl
   refine qm rfl<|gp 4 55 (.b x20) 51 rfl rfl (fun hg18=>?_) (fun hg18=>?_) ?_
   ·refine oB (bt hx20 hg18) fun x19 hx19 hx20=>?_
    obtain rfl:=os hx20
    exact gT rfl hg18<|A0 (C2 rfl) rfl<|gT rfl hg18<|A0 (B4 rfl rfl rfl) rfl<|gT rfl hg18<|B5 (rs:=[.b x19]) rfl rfl (A2 rfl (A2 rfl (A2 rfl B3))) ((M9 hx19).frz)<|A0 (C4 rfl hg18 rfl) rfl<|ge 4 rfl rfl rfl
   ·obtain rfl:=os (bf hx20 hg18)
    exact nT rfl hg18 rfl<|nT rfl hg18 rfl<|H8 (D9 rfl (by rw [hg18]; rfl)) rfl<|A0 (C3 rfl hg18 rfl) rfl<|ge 4 rfl rfl rfl
   refine qm rfl<|es (ra1 rfl)<|C8 ?_
   obtain rfl:=os h
   exact retq trivial (A6 rfl B9) (A4 rfl B8) (A3 A5 A8)
def Y6 (a0:PaShow) (s2:(Int × (List ByteArray))):Option ((Int × (List ByteArray)) ⊕ ((Int × Int × Int) ⊕ (List ByteArray))) :=
 if (decide (s2.1 < (List.length a0.Gowns:Int))) = true then
  (idx a0.Gowns s2.1).bind fun x5 =>
  (A21 x5.Name s2.2).bind fun x6 =>
  (idx a0.Gowns s2.1).bind fun x7 =>
  (app 16 s2.2 [x7.Name]).bind fun x8 =>
  (if (x6 == 0) = true then
  (idx a0.Gowns s2.1).bind fun x10 =>
  (A3k x10).bind fun x11 =>
  some (!x11)
  else
  some false).bind fun x12 =>
  if x12 = true then
  some (.inr (.inl (1,s2.1,7)))
  else
  if (x6 != 0) = true then
   some (.inr (.inl (1,s2.1,x6)))
  else
   some (.inl ((w64 (s2.1 + 1)),x8))
 else
  some (.inr (.inr s2.2))
def Y7 (a0:PaShow) (s18:(Int × (List ByteArray))):Option ((Int × (List ByteArray)) ⊕ ((Int × Int × Int) ⊕ (List ByteArray))) :=
 if (decide (s18.1 < (List.length a0.Figures:Int))) = true then
  (idx a0.Figures s18.1).bind fun x21 =>
  (A21 x21.Name s18.2).bind fun x22 =>
  (idx a0.Figures s18.1).bind fun x23 =>
  (app 16 s18.2 [x23.Name]).bind fun x24 =>
  if (x22 == 0) = true then
  (idx a0.Figures s18.1).bind fun x26 =>
  (A1f x26).bind fun x27 =>
  if (x27 != 0) = true then
   some (.inr (.inl (2,s18.1,x27)))
  else
   some (.inl ((w64 (s18.1 + 1)),x24))
  else
  if (x22 != 0) = true then
   some (.inr (.inl (2,s18.1,x22)))
  else
   some (.inl ((w64 (s18.1 + 1)),x24))
 else
  some (.inr (.inr s18.2))
def Y8 (a0:PaShow) (s35:Int):Option (Int ⊕ ((Int × Int × Int) ⊕ Unit)) :=
 if (decide (s35 < (List.length a0.Incomes:Int))) = true then
  (idx a0.Incomes s35).bind fun x38 =>
  (P2 x38.Day 0 364).bind fun x39 =>
  (if (!x39) = true then
  some true
  else
  (idx a0.Incomes s35).bind fun x41 =>
  (P2 x41.Pence 0 10000).bind fun x42 =>
  some (!x42)).bind fun x43 =>
  if x43 = true then
  some (.inr (.inl (4,s35,7)))
  else
  some (.inl (w64 (s35 + 1)))
 else
  some (.inr (.inr ()))
def A2a (a0:PaShow):Option (Int × Int × Int) :=
 if (decide ((List.length a0.Gowns:Int) > 5)) = true then
  some (1,0,3)
 else
  (loop (Y6 a0) (0,([]:List ByteArray))).bind fun (o15:((Int × Int × Int) ⊕ (List ByteArray))) =>
  match o15 with
  | (.inl vo15_0) =>
  some vo15_0
  | (.inr vo15_1) =>
  if (decide ((List.length a0.Figures:Int) > 3)) = true then
   some (2,0,3)
  else
   (loop (Y7 a0) (0,([]:List ByteArray))).bind fun (o30:((Int × Int × Int) ⊕ (List ByteArray))) =>
   match o30 with
   | (.inl vo30_0) =>
   some vo30_0
   | (.inr vo30_1) =>
   (P2 a0.Purse 0 10000).bind fun x32 =>
   if (!x32) = true then
    some (3,0,7)
   else
    if (decide ((List.length a0.Incomes:Int) > 3)) = true then
    some (4,0,3)
    else
    (loop (Y8 a0) 0).bind fun (o45:((Int × Int × Int) ⊕ Unit)) =>
    match o45 with
    | (.inl vo45_0) =>
     some vo45_0
    | (.inr vo45_1) =>
     some (0,0,0)
theorem B4y {c:Sc} {H:A1} {a0:PaShow} {r:(Int × Int × Int)} (h:A2a a0 = some r) :
  E8 tab c H (.fn (.func 36) [] []) [(.agg (C0 a0))] [.i r.1,.i r.2.1,.i r.2.2]:= by
 unfold A2a at h
 refine cE rfl rfl<|sg 0 rfl<|A0 (F7 (cs:=C0 a0) rfl rfl rfl) rfl<|qm rfl<|qm rfl<|qm rfl<|es (ra1 rfl)<|C6<|s0<|A0 (C2 rfl) rfl<|A0 (B4 rfl rfl rfl) rfl<|A0 (G7 (f:=C1) rfl) rfl<|A0 (A06 rfl rfl) rfl<|es (ra2 rfl rfl)<|wi h rfl (fun hc1 h=>?_) fun hc1 h=>?_
 ·refine s0<|qm rfl<|qm rfl<|qm rfl<|es (ra3 rfl rfl rfl)<|C8 ?_
  obtain rfl:=os h
  exact retq trivial (A6 rfl (A6 rfl (A6 rfl B9))) (A4 rfl (A4 rfl (A4 rfl B8))) (A3 A5 (A3 A5 (A3 A5 A8)))
 ·refine C7<|sg 1 rfl<|A0 A53 rfl<|es (ra2 rfl rfl)<|C6<|s0<|qm rfl<|es (ra3 rfl rfl rfl)<|C9<|oB h fun o15 ho15 h=>wl (fun s2=>[(1,(.ptr (H.length + 0) 0)),(5,(.asl (H.length + 1) (List.length s2.2))),(6,.i s2.1)]) (fun (q3:Bool) s2=>[(.cells (C0 a0)),(.arr 1 q3 (List.map cS s2.2))]) 2 (fun r e s' H'=>(match r with | (.inl v)=>e = .ret∧RetQ H [.tmp 2,.tmp 3,.tmp 4] [.i v.1,.i v.2.1,.i v.2.2] e s' H' | (.inr v)=>e = (.exit 0)∧s' = [(1,(.ptr (H.length + 0) 0))]∧∃ (q0q:Bool),H' = (H++[(.cells (C0 a0)),(.arr 1 q0q (List.map cS v))]):Prop)) false ho15 rfl rfl (fun _ _=>rfl) (fun _=>rfl) rfl (fun s2=>(bdc (P3 rfl) (bdc (A2d rfl) (bdc A5 bdn)))) (fun q3 s2 ys2 hs2=>?_) ?_
  ·unfold Y6 at hs2
   refine C6<|s0<|qm rfl<|A0 (C2 rfl) rfl<|A0 (B4 rfl rfl rfl) rfl<|A0 (G7 (f:=C1) rfl) rfl<|A0 (L4 rfl rfl) rfl<|es (ra4 rfl rfl rfl rfl)<|wi hs2 rfl (fun hc4 hs2=>?_) fun hc4 hs2=>?_
   ·refine C7<|C6<|C9<|s0<|oB hs2 fun x5 hx5 hs2=>oB hs2 fun x6 hx6 hs2=>A0 (C2 rfl) rfl<|A0 (B4 rfl rfl rfl) rfl<|qm rfl<|A0 (G6 (f:=C1) rfl rfl hx5) rfl<|A0 (A76 (ds:=(C1 x5)) rfl rfl) rfl<|A0 (T5 rfl rfl) rfl<|qm rfl<|B5 (rs:=[.i x6]) rfl rfl (A2 rfl (A2 (B8b rfl (List.length_map _)) B3)) ((A93 hx6).frz)<|qm rfl<|es (ra4 rfl rfl rfl rfl)<|s0<|oB hs2 fun x7 hx7 hs2=>oB hs2 fun x8 hx8 hs2=>qm rfl<|A0 (C2 rfl) rfl<|A0 (B4 rfl rfl rfl) rfl<|qm rfl<|A0 (G6 (f:=C1) rfl rfl hx7) rfl<|A0 (A76 (ds:=(C1 x7)) rfl rfl) rfl<|A0 (T5 rfl rfl) rfl<|A0 (I5 (rows:=List.map cS [x7.Name]) rfl rfl (E0 (fun _=>rfl) _)) rfl<|N9 (A6t (f:=cS) rfl rfl rfl rfl A64 (fun _=>rfl) hx8) rfl<|qm rfl<|es (ra4 rfl rfl rfl rfl)<|C6<|s0<|oB hs2 fun x12 hx12 hs2=>qm rfl<|A0 (F8 rfl rfl) rfl<|qm rfl<|gp 8 49 (.b x12) 41 rfl rfl (fun hg9=>?_) (fun hg9=>?_) ?_
    ·refine oB (bt hx12 hg9) fun x10 hx10 hx12=>oB hx12 fun x11 hx11 hx12=>?_
     obtain rfl:=os hx12
     exact gT rfl hg9<|A0 (C2 rfl) rfl<|gT rfl hg9<|A0 (B4 rfl rfl rfl) rfl<|gT rfl hg9<|qm rfl<|gT rfl hg9<|A0 (G6 (f:=C1) rfl rfl hx10) rfl<|gT rfl hg9<|A0 (H6 rfl rfl) rfl<|gT rfl hg9<|B5 (rs:=[.b x11]) rfl rfl (A2 (D8 rfl) B3) ((B56 hx11).frz)<|gT rfl hg9<|A0 (U5 rfl) rfl<|A0 (C4 rfl hg9 rfl) rfl<|ge 8 rfl rfl rfl
    ·obtain rfl:=os (bf hx12 hg9)
     exact nT rfl hg9 rfl<|nT rfl hg9 rfl<|nT rfl hg9 rfl<|nT rfl hg9 rfl<|nT rfl hg9 rfl<|H8 (D9 rfl (by rw [hg9]; rfl)) rfl<|nT rfl hg9 rfl<|A0 (C3 rfl hg9 rfl) rfl<|ge 8 rfl rfl rfl
    refine es (ra5 rfl rfl rfl rfl rfl)<|wi hs2 rfl (fun hc13 hs2=>?_) fun hc13 hs2=>?_
    ·refine r0<|qm rfl<|en (ra4 rfl rfl rfl rfl)<|s0<|qm rfl<|A0 (O5 (v:=(.b true)) rfl rfl rfl) rfl<|es (ra5 rfl rfl rfl rfl rfl)<|M7 rfl rfl<|s0<|qm rfl<|qm rfl<|qm rfl<|qm rfl<|qm rfl<|es (ra3 rfl rfl rfl)<|C8 ?_
     obtain rfl:=os hs2
     exact lx rfl (And.intro rfl (retq trivial (A6 rfl (A6 rfl (A6 rfl B9))) (A4 rfl (A4 rfl (A4 rfl B8))) (A3 A5 (A3 A5 (A3 A5 A8))))) (Sub.refl _)
    ·refine C7<|s0<|qm rfl<|A0 (N5 rfl rfl) rfl<|es (ra5 rfl rfl rfl rfl rfl)<|wi hs2 rfl (fun hc14 hs2=>?_) fun hc14 hs2=>?_
     ·refine s0<|qm rfl<|qm rfl<|qm rfl<|qm rfl<|qm rfl<|es (ra3 rfl rfl rfl)<|C8 ?_
      obtain rfl:=os hs2
      exact lx rfl (And.intro rfl (retq trivial (A6 rfl (A6 rfl (A6 rfl B9))) (A4 rfl (A4 rfl (A4 rfl B8))) (A3 A5 (A3 A5 (A3 A5 A8))))) (Sub.refl _)
     ·refine C7<|r0<|qm rfl<|A0 (G1 rfl rfl) rfl<|qm rfl<|en (ra3 rfl rfl rfl) ?_
      cases hs2
      exact lnT true rfl (su3 rfl rfl rfl)
   ·refine J4 ?_
    obtain rfl:=os hs2
    exact lx rfl (And.intro rfl (And.intro rfl ⟨q3,rfl⟩)) (su1 rfl)
  ·rcases o15 with vo15_0 | vo15_1
   ·rintro e s' H' - ⟨rfl,hret⟩
    cases h
    exact hret
   ·rintro e s' H' - ⟨rfl,rfl,q16,rfl⟩
    refine C6<|s0<|A0 (C2 rfl) rfl<|A0 (B4 rfl rfl rfl) rfl<|A0 (G7 (f:=B2) rfl) rfl<|A0 (A06 rfl rfl) rfl<|es (ra2 rfl rfl)<|wi h rfl (fun hc17 h=>?_) fun hc17 h=>?_
    ·refine s0<|qm rfl<|qm rfl<|qm rfl<|es (ra3 rfl rfl rfl)<|C8 ?_
     obtain rfl:=os h
     exact retq trivial (A6 rfl (A6 rfl (A6 rfl B9))) (A4 rfl (A4 rfl (A4 rfl B8))) (A3 A5 (A3 A5 (A3 A5 A8)))
    ·refine C7<|sg 2 rfl<|A0 A53 rfl<|es (ra2 rfl rfl)<|C6<|s0<|qm rfl<|es (ra3 rfl rfl rfl)<|C9<|oB h fun o30 ho30 h=>wl (fun s18=>[(1,(.ptr (H.length + 0) 0)),(5,(.asl (H.length + 2) (List.length s18.2))),(8,.i s18.1)]) (fun (q19:Bool) s18=>[(.cells (C0 a0)),(.arr 1 q16 (List.map cS vo15_1)),(.arr 1 q19 (List.map cS s18.2))]) 3 (fun r e s' H'=>(match r with | (.inl v)=>e = .ret∧RetQ H [.tmp 2,.tmp 3,.tmp 4] [.i v.1,.i v.2.1,.i v.2.2] e s' H' | (.inr v)=>e = (.exit 2)∧s' = [(1,(.ptr (H.length + 0) 0))]∧∃ (q0q:Bool),H' = (H++[(.cells (C0 a0)),(.arr 1 q16 (List.map cS vo15_1)),(.arr 1 q0q (List.map cS v))]):Prop)) false ho30 rfl rfl (fun _ _=>rfl) (fun _=>rfl) rfl (fun s18=>(bdc (P3 rfl) (bdc (A2d rfl) (bdc A5 bdn)))) (fun q19 s18 ys18 hs18=>?_) ?_
     ·unfold Y7 at hs18
      refine C6<|s0<|qm rfl<|A0 (C2 rfl) rfl<|A0 (B4 rfl rfl rfl) rfl<|A0 (G7 (f:=B2) rfl) rfl<|A0 (L4 rfl rfl) rfl<|es (ra4 rfl rfl rfl rfl)<|wi hs18 rfl (fun hc20 hs18=>?_) fun hc20 hs18=>?_
      ·refine C7<|C6<|C9<|s0<|oB hs18 fun x21 hx21 hs18=>oB hs18 fun x22 hx22 hs18=>A0 (C2 rfl) rfl<|A0 (B4 rfl rfl rfl) rfl<|qm rfl<|A0 (G6 (f:=B2) rfl rfl hx21) rfl<|A0 (A76 (ds:=(B2 x21)) rfl rfl) rfl<|A0 (T5 rfl rfl) rfl<|qm rfl<|B5 (rs:=[.i x22]) rfl rfl (A2 rfl (A2 (B8b rfl (List.length_map _)) B3)) ((A93 hx22).frz)<|qm rfl<|es (ra4 rfl rfl rfl rfl)<|s0<|oB hs18 fun x23 hx23 hs18=>oB hs18 fun x24 hx24 hs18=>qm rfl<|A0 (C2 rfl) rfl<|A0 (B4 rfl rfl rfl) rfl<|qm rfl<|A0 (G6 (f:=B2) rfl rfl hx23) rfl<|A0 (A76 (ds:=(B2 x23)) rfl rfl) rfl<|A0 (T5 rfl rfl) rfl<|A0 (I5 (rows:=List.map cS [x23.Name]) rfl rfl (E0 (fun _=>rfl) _)) rfl<|N9 (A6t (f:=cS) rfl rfl rfl rfl A64 (fun _=>rfl) hx24) rfl<|qm rfl<|es (ra4 rfl rfl rfl rfl)<|C6<|s0<|qm rfl<|A0 (F8 rfl rfl) rfl<|es (ra5 rfl rfl rfl rfl rfl)<|wi hs18 rfl (fun hc25 hs18=>?_) fun hc25 hs18=>?_
       ·refine r0<|oB hs18 fun x26 hx26 hs18=>oB hs18 fun x27 hx27 hs18=>A0 (C2 rfl) rfl<|A0 (B4 rfl rfl rfl) rfl<|qm rfl<|A0 (G6 (f:=B2) rfl rfl hx26) rfl<|A0 (H6 rfl rfl) rfl<|B5 (rs:=[.i x27]) rfl rfl (A2 (D8 rfl) B3) ((B25 hx27).frz)<|qm rfl<|en (ra4 rfl rfl rfl rfl)<|s0<|qm rfl<|A0 (N5 rfl rfl) rfl<|es (ra5 rfl rfl rfl rfl rfl)<|wi hs18 rfl (fun hc28 hs18=>?_) fun hc28 hs18=>?_
        ·refine s0<|qm rfl<|qm rfl<|qm rfl<|qm rfl<|qm rfl<|es (ra3 rfl rfl rfl)<|C8 ?_
         obtain rfl:=os hs18
         exact lx rfl (And.intro rfl (retq trivial (A6 rfl (A6 rfl (A6 rfl B9))) (A4 rfl (A4 rfl (A4 rfl B8))) (A3 A5 (A3 A5 (A3 A5 A8))))) (Sub.refl _)
        ·refine C7<|r0<|qm rfl<|A0 (G1 rfl rfl) rfl<|qm rfl<|en (ra3 rfl rfl rfl) ?_
         cases hs18
         exact lnT true rfl (su3 rfl rfl rfl)
       ·refine C7<|s0<|qm rfl<|A0 (N5 rfl rfl) rfl<|es (ra5 rfl rfl rfl rfl rfl)<|wi hs18 rfl (fun hc29 hs18=>?_) fun hc29 hs18=>?_
        ·refine s0<|qm rfl<|qm rfl<|qm rfl<|qm rfl<|qm rfl<|es (ra3 rfl rfl rfl)<|C8 ?_
         obtain rfl:=os hs18
         exact lx rfl (And.intro rfl (retq trivial (A6 rfl (A6 rfl (A6 rfl B9))) (A4 rfl (A4 rfl (A4 rfl B8))) (A3 A5 (A3 A5 (A3 A5 A8))))) (Sub.refl _)
        ·refine C7<|r0<|qm rfl<|A0 (G1 rfl rfl) rfl<|qm rfl<|en (ra3 rfl rfl rfl) ?_
         cases hs18
         exact lnT true rfl (su3 rfl rfl rfl)
      ·refine J4 ?_
       obtain rfl:=os hs18
       exact lx rfl (And.intro rfl (And.intro rfl ⟨q19,rfl⟩)) (su1 rfl)
     ·rcases o30 with vo30_0 | vo30_1
      ·rintro e s' H' - ⟨rfl,hret⟩
       cases h
       exact hret
      ·rintro e s' H' - ⟨rfl,rfl,q31,rfl⟩
       refine C6<|s0<|oB h fun x32 hx32 h=>A0 (C2 rfl) rfl<|A0 (B4 rfl rfl rfl) rfl<|B5 (rs:=[.b x32]) rfl rfl (A2 rfl (A2 rfl (A2 rfl B3))) ((M9 hx32).frz)<|A0 (U5 rfl) rfl<|es (ra2 rfl rfl)<|wi h rfl (fun hc33 h=>?_) fun hc33 h=>?_
       ·refine s0<|qm rfl<|qm rfl<|qm rfl<|es (ra3 rfl rfl rfl)<|C8 ?_
        obtain rfl:=os h
        exact retq trivial (A6 rfl (A6 rfl (A6 rfl B9))) (A4 rfl (A4 rfl (A4 rfl B8))) (A3 A5 (A3 A5 (A3 A5 A8)))
       ·refine C7<|C6<|s0<|A0 (C2 rfl) rfl<|A0 (B4 rfl rfl rfl) rfl<|A0 (G7 (f:=D2) rfl) rfl<|A0 (A06 rfl rfl) rfl<|es (ra2 rfl rfl)<|wi h rfl (fun hc34 h=>?_) fun hc34 h=>?_
        ·refine s0<|qm rfl<|qm rfl<|qm rfl<|es (ra3 rfl rfl rfl)<|C8 ?_
         obtain rfl:=os h
         exact retq trivial (A6 rfl (A6 rfl (A6 rfl B9))) (A4 rfl (A4 rfl (A4 rfl B8))) (A3 A5 (A3 A5 (A3 A5 A8)))
        ·refine C7<|C6<|s0<|qm rfl<|es (ra2 rfl rfl)<|C9<|oB h fun o45 ho45 h=>wl (fun s35=>[(1,(.ptr (H.length + 0) 0)),(10,.i s35)]) (fun (q36:Unit) s35=>[(.cells (C0 a0)),(.arr 1 q16 (List.map cS vo15_1)),(.arr 1 q31 (List.map cS vo30_1))]) 3 (fun r e s' H'=>(match r with | (.inl v)=>e = .ret∧RetQ H [.tmp 2,.tmp 3,.tmp 4] [.i v.1,.i v.2.1,.i v.2.2] e s' H' | (.inr v)=>PX 4 [] (H++[(.cells (C0 a0)),(.arr 1 q16 (List.map cS vo15_1)),(.arr 1 q31 (List.map cS vo30_1))]) e s' H':Prop)) () ho45 rfl rfl (fun _ _=>rfl) (fun _=>rfl) rfl (fun s35=>(bdc (P3 rfl) (bdc A5 bdn))) (fun q36 s35 ys35 hs35=>?_) ?_
         ·unfold Y8 at hs35
          refine C6<|s0<|qm rfl<|A0 (C2 rfl) rfl<|A0 (B4 rfl rfl rfl) rfl<|A0 (G7 (f:=D2) rfl) rfl<|A0 (L4 rfl rfl) rfl<|es (ra3 rfl rfl rfl)<|wi hs35 rfl (fun hc37 hs35=>?_) fun hc37 hs35=>?_
          ·refine C7<|C6<|C9<|s0<|oB hs35 fun x38 hx38 hs35=>oB hs35 fun x39 hx39 hs35=>oB hs35 fun x43 hx43 hs35=>A0 (C2 rfl) rfl<|A0 (B4 rfl rfl rfl) rfl<|qm rfl<|A0 (G6 (f:=D2) rfl rfl hx38) rfl<|A0 (A76 (ds:=(D2 x38)) rfl rfl) rfl<|A0 (T5 rfl rfl) rfl<|B5 (rs:=[.b x39]) rfl rfl (A2 rfl (A2 rfl (A2 rfl B3))) ((M9 hx39).frz)<|A0 (U5 rfl) rfl<|qm rfl<|gp 9 126 (.b x43) 117 rfl rfl (fun hg40=>?_) (fun hg40=>?_) ?_
           ·obtain rfl:=os (bt hx43 hg40)
            exact nF rfl hg40 rfl<|nF rfl hg40 rfl<|nF rfl hg40 rfl<|nF rfl hg40 rfl<|nF rfl hg40 rfl<|nF rfl hg40 rfl<|H8 (D9 rfl (by rw [hg40]; rfl)) rfl<|nF rfl hg40 rfl<|A0 (C4 rfl hg40 rfl) rfl<|ge 9 rfl rfl rfl
           ·refine oB (bf hx43 hg40) fun x41 hx41 hx43=>oB hx43 fun x42 hx42 hx43=>?_
            obtain rfl:=os hx43
            exact gF rfl hg40<|A0 (C2 rfl) rfl<|gF rfl hg40<|A0 (B4 rfl rfl rfl) rfl<|gF rfl hg40<|qm rfl<|gF rfl hg40<|A0 (G6 (f:=D2) rfl rfl hx41) rfl<|gF rfl hg40<|A0 (A76 (ds:=(List.drop 1 (D2 x41))) rfl rfl) rfl<|gF rfl hg40<|A0 (T5 rfl rfl) rfl<|gF rfl hg40<|B5 (rs:=[.b x42]) rfl rfl (A2 rfl (A2 rfl (A2 rfl B3))) ((M9 hx42).frz)<|gF rfl hg40<|A0 (U5 rfl) rfl<|A0 (C3 rfl hg40 rfl) rfl<|ge 9 rfl rfl rfl
           refine es (ra3 rfl rfl rfl)<|wi hs35 rfl (fun hc44 hs35=>?_) fun hc44 hs35=>?_
           ·refine s0<|qm rfl<|qm rfl<|qm rfl<|qm rfl<|es (ra3 rfl rfl rfl)<|C8 ?_
            obtain rfl:=os hs35
            exact lx rfl (And.intro rfl (retq trivial (A6 rfl (A6 rfl (A6 rfl B9))) (A4 rfl (A4 rfl (A4 rfl B8))) (A3 A5 (A3 A5 (A3 A5 A8))))) (Sub.refl _)
           ·refine C7<|r0<|qm rfl<|A0 (G1 rfl rfl) rfl<|qm rfl<|en (ra2 rfl rfl) ?_
            cases hs35
            exact lnT () rfl (su2 rfl rfl)
          ·refine J4 ?_
           obtain rfl:=os hs35
           exact lx rfl px (.nil _)
         ·rcases o45 with vo45_0 | vo45_1
          ·rintro e s' H' - ⟨rfl,hret⟩
           cases h
           exact hret
          ·rintro e s' H' - ⟨rfl,rfl,rfl⟩
           refine s0<|qm rfl<|qm rfl<|qm rfl<|es (ra3 rfl rfl rfl)<|C8 ?_
           obtain rfl:=os h
           exact retq trivial (A6 rfl (A6 rfl (A6 rfl B9))) (A4 rfl (A4 rfl (A4 rfl B8))) (A3 A5 (A3 A5 (A3 A5 A8)))
def Z2 (a0:PaGown):Option ByteArray :=
 some a0.Name
theorem B2y {c:Sc} {H:A1} {a0:PaGown} {r:ByteArray} (h:Z2 a0 = some r) :
  E8 tab c H (.fn (.func 65) [] []) [(.agg (C1 a0))] [.s r]:= by
 unfold Z2 at h
 refine cE rfl rfl<|sg 0 rfl<|A0 (F7 (cs:=C1 a0) rfl rfl rfl) rfl<|qm rfl<|es (ra1 rfl)<|s0<|A0 (C2 rfl) rfl<|A0 (B4 rfl rfl rfl) rfl<|qm rfl<|es (ra1 rfl)<|C8 ?_
 obtain rfl:=os h
 exact retq trivial (A6 rfl B9) (A4 rfl B8) (A3 A5 A8)
def Z3 (a0:PaFigure):Option ByteArray :=
 some a0.Name
theorem B2z {c:Sc} {H:A1} {a0:PaFigure} {r:ByteArray} (h:Z3 a0 = some r) :
  E8 tab c H (.fn (.func 68) [] []) [(.agg (B2 a0))] [.s r]:= by
 unfold Z3 at h
 refine cE rfl rfl<|sg 0 rfl<|A0 (F7 (cs:=B2 a0) rfl rfl rfl) rfl<|qm rfl<|es (ra1 rfl)<|s0<|A0 (C2 rfl) rfl<|A0 (B4 rfl rfl rfl) rfl<|qm rfl<|es (ra1 rfl)<|C8 ?_
 obtain rfl:=os h
 exact retq trivial (A6 rfl B9) (A4 rfl B8) (A3 A5 A8)
def A0f (a0:ByteArray) (s1:Nat):Option (Nat ⊕ (Bool ⊕ Nat)) :=
 if (decide (s1 < ByteArray.size a0)) = true then
  if ((!((decide (97≤((Utf8.decode a0 s1).1:Int))) && (decide (((Utf8.decode a0 s1).1:Int)≤122)))) && (((s1:Int) == 0) || ((((Utf8.decode a0 s1).1:Int) != 46) && ((decide (((Utf8.decode a0 s1).1:Int) < 48)) || (decide (((Utf8.decode a0 s1).1:Int) > 57)))))) = true then
  some (.inr (.inl false))
  else
  some (.inl (s1 + (Utf8.decode a0 s1).2))
 else
  some (.inr (.inr s1))
def A1o (a0:ByteArray):Option Bool :=
 (loop (A0f a0) (0:Nat)).bind fun (o10:(Bool ⊕ Nat)) =>
 match o10 with
 | (.inl vo10_0) =>
  some vo10_0
 | (.inr vo10_1) =>
  some ((!eqS a0 (ByteArray.mk #[])) && (decide ((ByteArray.size a0:Int)≤16)))
theorem A78 {c:Sc} {H:A1} {a0:ByteArray} {r:Bool} (h:A1o a0 = some r) :
  E8 tab c H (.fn (.func 79) [] []) [.s a0] [.b r]:= by
 unfold A1o at h
 refine cE rfl rfl<|s0<|qm rfl<|es (ra1 rfl)<|C6<|sg 0 rfl<|qm rfl<|A0 (D0a rfl) rfl<|es (ra2 rfl rfl)<|C9<|oB h fun o10 ho10 h=>wl (fun s1=>[(0,.s a0),(7,(.itr (H.length + 0)))]) (fun (q2:Unit) s1=>[.iter a0 s1]) 1 (fun r e s' H'=>(match r with | (.inl v)=>e = .ret∧RetQ H [.tmp 2] [.b v] e s' H' | (.inr v)=>PX 0 [(0,.s a0)] (H++[.iter a0 v]) e s' H':Prop)) () ho10 rfl rfl (fun _ _=>rfl) (fun _=>rfl) rfl (fun s1=>(bdc A5 (bdc (D1d rfl) bdn))) (fun q2 s1 ys1 hs1=>?_) ?_
 ·unfold A0f at hs1
  by_cases hc3:(decide (s1 < ByteArray.size a0)) = true
  ·rw [if_pos hc3] at hs1
   refine s0<|N9 (C99 rfl rfl (of_decide_eq_true hc3)) rfl<|A0 (A7 rfl rfl) rfl<|es (ra4 rfl rfl rfl rfl)<|C6<|M7 rfl rfl<|C7<|C9<|s0<|A0 (A7 rfl rfl) rfl<|A0 (A7 rfl rfl) rfl<|qm rfl<|qm rfl<|es (ra4 rfl rfl rfl rfl)<|s0<|qm rfl<|A0 (A4j rfl rfl) rfl<|qm rfl<|gp 3 17 (.b ((decide (97≤((Utf8.decode a0 s1).1:Int))) && (decide (((Utf8.decode a0 s1).1:Int)≤122)))) 14 rfl rfl (fun hg4=>?_) (fun hg4=>?_) ?_
   ·exact gT rfl hg4<|qm rfl<|gT rfl hg4<|A0 (A4j rfl rfl) rfl<|A0 (C4 rfl hg4 rfl) rfl<|ge 3 (by rw [hg4]; rfl) rfl rfl
   ·exact nT rfl hg4 rfl<|nT rfl hg4 rfl<|A0 (C3 rfl hg4 rfl) rfl<|ge 3 (by rw [hg4]; rfl) rfl rfl
   refine qm rfl<|es (ra5 rfl rfl rfl rfl rfl)<|s0<|qm rfl<|A0 (U5 rfl) rfl<|qm rfl<|gp 15 35 (.b ((!((decide (97≤((Utf8.decode a0 s1).1:Int))) && (decide (((Utf8.decode a0 s1).1:Int)≤122)))) && (((s1:Int) == 0) || ((((Utf8.decode a0 s1).1:Int) != 46) && ((decide (((Utf8.decode a0 s1).1:Int) < 48)) || (decide (((Utf8.decode a0 s1).1:Int) > 57))))))) 20 rfl rfl (fun hg5=>?_) (fun hg5=>?_) ?_
   ·refine gT rfl hg5<|qm rfl<|gT rfl hg5<|A0 (F8 rfl rfl) rfl<|gT rfl hg5<|qm rfl<|gq 11 34 (.b (((s1:Int) == 0) || ((((Utf8.decode a0 s1).1:Int) != 46) && ((decide (((Utf8.decode a0 s1).1:Int) < 48)) || (decide (((Utf8.decode a0 s1).1:Int) > 57)))))) 23 rfl rfl (fun hg6=>?_) (fun hg6=>?_) ?_
    ·exact nF rfl hg6 rfl<|nF rfl hg6 rfl<|nF rfl hg6 rfl<|nX rfl rfl<|nX rfl rfl<|nX rfl rfl<|nX rfl rfl<|nX rfl rfl<|nX rfl rfl<|nF rfl hg6 rfl<|gT rfl hg5<|A0 (C4 rfl hg6 rfl) rfl<|ge 11 (by rw [hg6]; rfl) rfl rfl
    ·refine gF rfl hg6<|qm rfl<|gF rfl hg6<|A0 (N5 rfl rfl) rfl<|gF rfl hg6<|qm rfl<|gq 7 33 (.b ((((Utf8.decode a0 s1).1:Int) != 46) && ((decide (((Utf8.decode a0 s1).1:Int) < 48)) || (decide (((Utf8.decode a0 s1).1:Int) > 57))))) 26 rfl rfl (fun hg7=>?_) (fun hg7=>?_) ?_
     ·refine gT rfl hg7<|qm rfl<|gT rfl hg7<|A0 (L4 rfl rfl) rfl<|gT rfl hg7<|qm rfl<|gq 3 32 (.b ((decide (((Utf8.decode a0 s1).1:Int) < 48)) || (decide (((Utf8.decode a0 s1).1:Int) > 57)))) 29 rfl rfl (fun hg8=>?_) (fun hg8=>?_) ?_
      ·exact nF rfl hg8 rfl<|nF rfl hg8 rfl<|gT rfl hg7<|A0 (C4 rfl hg8 rfl) rfl<|ge 3 (by rw [hg8]; rfl) rfl rfl
      ·exact gF rfl hg8<|qm rfl<|gF rfl hg8<|A0 (A06 rfl rfl) rfl<|gT rfl hg7<|A0 (C3 rfl hg8 rfl) rfl<|ge 3 (by rw [hg8]; rfl) rfl rfl
      exact gF rfl hg6<|A0 (C4 rfl hg7 rfl) rfl<|ge 5 (by rw [hg7]; rfl) rfl rfl
     ·exact nT rfl hg7 rfl<|nT rfl hg7 rfl<|nT rfl hg7 rfl<|nX rfl rfl<|nX rfl rfl<|nT rfl hg7 rfl<|gF rfl hg6<|A0 (C3 rfl hg7 rfl) rfl<|ge 7 (by rw [hg7]; rfl) rfl rfl
     exact gT rfl hg5<|A0 (C3 rfl hg6 rfl) rfl<|ge 5 (by rw [hg6]; rfl) rfl rfl
    exact A0 (C4 rfl hg5 rfl) rfl<|ge 5 (by rw [hg5]; rfl) rfl rfl
   ·exact nT rfl hg5 rfl<|nT rfl hg5 rfl<|nT rfl hg5 rfl<|nX rfl rfl<|nX rfl rfl<|nX rfl rfl<|nX rfl rfl<|nX rfl rfl<|nX rfl rfl<|nX rfl rfl<|nX rfl rfl<|nX rfl rfl<|nX rfl rfl<|nT rfl hg5 rfl<|A0 (C3 rfl hg5 rfl) rfl<|ge 15 (by rw [hg5]; rfl) rfl rfl
   refine es (ra3 rfl rfl rfl)<|wi hs1 rfl (fun hc9 hs1=>?_) fun hc9 hs1=>?_
   ·refine s0<|qm rfl<|es (ra1 rfl)<|C8 ?_
    obtain rfl:=os hs1
    exact lx rfl (And.intro rfl (retq trivial (A6 rfl B9) (A4 rfl B8) (A3 A5 A8))) (Sub.refl _)
   ·refine C7 ?_
    cases hs1
    exact lnT () rfl (su2 rfl rfl)
  ·rw [if_neg hc3] at hs1
   refine s0<|N9 (C98 rfl rfl (fun hn=>hc3 (decide_eq_true hn))) rfl<|A0 (A7 rfl rfl) rfl<|es (ra4 rfl rfl rfl rfl)<|C6<|O7 rfl rfl<|J4 ?_
   obtain rfl:=os hs1
   exact lx rfl px (su1 rfl)
 ·rcases o10 with vo10_0 | vo10_1
  ·rintro e s' H' - ⟨rfl,hret⟩
   cases h
   exact hret
  ·rintro e s' H' - ⟨rfl,rfl,rfl⟩
   refine s0<|qm rfl<|A0 (D3b rfl rfl) rfl<|qm rfl<|gp 4 42 (.b ((!eqS a0 (ByteArray.mk #[])) && (decide ((ByteArray.size a0:Int)≤16)))) 38 rfl rfl (fun hg11=>?_) (fun hg11=>?_) ?_
   ·exact gT rfl hg11<|qm rfl<|gT rfl hg11<|A0 (B8s rfl) rfl<|gT rfl hg11<|A0 (A4j rfl rfl) rfl<|A0 (C4 rfl hg11 rfl) rfl<|ge 4 (by rw [hg11]; rfl) rfl rfl
   ·exact nT rfl hg11 rfl<|nT rfl hg11 rfl<|nT rfl hg11 rfl<|A0 (C3 rfl hg11 rfl) rfl<|ge 4 (by rw [hg11]; rfl) rfl rfl
   refine qm rfl<|es (ra1 rfl)<|C8 ?_
   obtain rfl:=os h
   exact retq trivial (A6 rfl B9) (A4 rfl B8) (A3 A5 A8)
def L3 (a0:PaFigure) (g1:(PaFigure→Option ByteArray)) (a2:(List PaFigure)) (a3:Int):Option Bool :=
 (g1 a0).bind fun x1 =>
 (idx a2 a3).bind fun x2 =>
 (g1 x2).bind fun x3 =>
 some (eqS x1 x3)
theorem A2i {c:Sc} {H:A1} {a0:PaFigure} {g1:PaFigure→Option ByteArray} {g1_i:Nat} {g1_f g1_c:List AV} (g1_h:Impl tab H g1_i g1_f g1_c g1 (fun y=>[(.agg (B2 y))]) (fun y=>[.s y])) {b1:Nat} (hb1:hcells H b1 = some [.fn (.func g1_i) g1_f g1_c]) {a2:(List PaFigure)} {b2:Nat} (hb2:hcells H b2 = some ((cL 4 B2) a2)) {a3:Int} {b3:Nat} (hb3:hcells H b3 = some (cI a3)) {r:Bool} (h:L3 a0 g1 a2 a3 = some r) :
  E8 tab c H (.fn (.func 83) [] []) [(.agg (B2 a0)),.ptr b1 0,.ptr b2 0,.ptr b3 0] [.b r]:= by
 unfold L3 at h
 refine cE rfl rfl<|sg 0 rfl<|A0 (F7 (cs:=B2 a0) rfl rfl rfl) rfl<|qm rfl<|es (ra4 rfl rfl rfl rfl)<|s0<|oB h fun x1 hx1 h=>oB h fun x2 hx2 h=>oB h fun x3 hx3 h=>A0 (F2 (x:=(.fn (.func g1_i) g1_f g1_c)) rfl hb1 rfl) rfl<|A0 (E3 rfl rfl rfl) rfl<|T9 (rs:=[.s x1]) rfl rfl (A95 rfl A1t) (A2 (D8 rfl) B3) (Impl.callP g1_h hx1 _)<|A0 (F2 (x:=(.fn (.func g1_i) g1_f g1_c)) rfl hb1 rfl) rfl<|A0 (F2 rfl hb2 rfl) rfl<|A0 (F2 rfl hb3 rfl) rfl<|A0 (G6 (f:=B2) rfl rfl hx2) rfl<|A0 (H6 rfl rfl) rfl<|B5 (rs:=[.s x3]) rfl rfl (A2 (D8 rfl) B3) (Impl.call g1_h hx3 _)<|A0 (C6l rfl rfl) rfl<|qm rfl<|es (ra1 rfl)<|C8 ?_
 obtain rfl:=os h
 exact retq trivial (A6 rfl B9) (A4 rfl B8) (A3 A5 A8)
def I6 (a0:(List PaFigure)) (g1:(PaFigure→Option Bool)) (s1:Int):Option (Int ⊕ (Int ⊕ Unit)) :=
 if (decide (s1 < (List.length a0:Int))) = true then
  (idx a0 s1).bind fun x4 =>
  (g1 x4).bind fun x5 =>
  if x5 = true then
  some (.inr (.inl s1))
  else
  some (.inl (w64 (s1 + 1)))
 else
  some (.inr (.inr ()))
def J3 (a0:(List PaFigure)) (g1:(PaFigure→Option Bool)):Option Int :=
 (loop (I6 a0 g1) 0).bind fun (o7:(Int ⊕ Unit)) =>
 match o7 with
 | (.inl vo7_0) =>
  some vo7_0
 | (.inr vo7_1) =>
  some (-1)
theorem T3 {c:Sc} {H:A1} {a0:(List PaFigure)} {g1:PaFigure→Option Bool} {g1_i:Nat} {g1_f g1_c:List AV} (g1_h:Impl tab H g1_i g1_f g1_c g1 (fun y=>[(.agg (B2 y))]) (fun y=>[.b y])) {r:Int} (h:J3 a0 g1 = some r) :
  E8 tab c H (.fn (.func 98) [] []) [(.seq 4 (List.map B2 a0)),.fn (.func g1_i) g1_f g1_c] [.i r]:= by
 unfold J3 at h
 refine cE rfl rfl<|s0<|qm rfl<|es (ra2 rfl rfl)<|C6<|s0<|qm rfl<|A0 (G7 (f:=B2) rfl) rfl<|qm rfl<|es (ra4 rfl rfl rfl rfl)<|C9<|oB h fun o7 ho7 h=>wl (fun s1=>[(0,(.seq 4 (List.map B2 a0))),(1,(.fn (.func g1_i) g1_f g1_c)),(7,(.i (List.length a0:Int))),(8,.i s1)]) (fun (q2:Unit) s1=>[]) 0 (fun r e s' H'=>(match r with | (.inl v)=>e = .ret∧RetQ H [.tmp 4] [.i v] e s' H' | (.inr v)=>PX 0 [] (H++[]) e s' H':Prop)) () ho7 rfl rfl (fun _ _=>rfl) (fun _=>rfl) rfl (fun s1=>(bdc M4 (bdc (B9l g1_h.1) (bdc A5 (bdc A5 bdn))))) (fun q2 s1 ys1 hs1=>?_) ?_
 ·unfold I6 at hs1
  refine s0<|A0 (L4 rfl rfl) rfl<|es (ra5 rfl rfl rfl rfl rfl)<|C6<|wi hs1 rfl (fun hc3 hs1=>?_) fun hc3 hs1=>?_
  ·refine C7<|C6<|C9<|s0<|qm rfl<|qm rfl<|es (ra5 rfl rfl rfl rfl rfl)<|s0<|oB hs1 fun x4 hx4 hs1=>oB hs1 fun x5 hx5 hs1=>qm rfl<|qm rfl<|qm rfl<|A0 (G6 (f:=B2) rfl rfl hx4) rfl<|A0 (H6 rfl rfl) rfl<|B5 (rs:=[.b x5]) rfl rfl (A2 (D8 rfl) B3) (Impl.call g1_h hx5 _)<|es (ra6 rfl rfl rfl rfl rfl rfl)<|wi hs1 rfl (fun hc6 hs1=>?_) fun hc6 hs1=>?_
   ·refine s0<|qm rfl<|qm rfl<|es (ra1 rfl)<|C8 ?_
    obtain rfl:=os hs1
    exact lx rfl (And.intro rfl (retq trivial (A6 rfl B9) (A4 rfl B8) (A3 A5 A8))) (Sub.refl _)
   ·refine C7<|r0<|A0 (G1 rfl rfl) rfl<|qm rfl<|en (ra4 rfl rfl rfl rfl) ?_
    cases hs1
    exact lnT () rfl (su4 rfl rfl rfl rfl)
  ·refine J4 ?_
   obtain rfl:=os hs1
   exact lx rfl px (.nil _)
 ·rcases o7 with vo7_0 | vo7_1
  ·rintro e s' H' - ⟨rfl,hret⟩
   cases h
   exact hret
  ·rintro e s' H' - ⟨rfl,rfl,rfl⟩
   refine s0<|qm rfl<|es (ra1 rfl)<|C8 ?_
   obtain rfl:=os h
   exact retq trivial (A6 rfl B9) (A4 rfl B8) (A3 A5 A8)
def F9 (a0:(List PaFigure)) (g1:(PaFigure→Option Bool)):Option Bool :=
 (J3 a0 g1).bind fun x1 =>
 some (decide (x1 ≥ 0))
theorem R3 {c:Sc} {H:A1} {a0:(List PaFigure)} {g1:PaFigure→Option Bool} {g1_i:Nat} {g1_f g1_c:List AV} (g1_h:Impl tab H g1_i g1_f g1_c g1 (fun y=>[(.agg (B2 y))]) (fun y=>[.b y])) {r:Bool} (h:F9 a0 g1 = some r) :
  E8 tab c H (.fn (.func 82) [] []) [(.seq 4 (List.map B2 a0)),.fn (.func g1_i) g1_f g1_c] [.b r]:= by
 unfold F9 at h
 refine cE rfl rfl<|s0<|qm rfl<|es (ra2 rfl rfl)<|s0<|oB h fun x1 hx1 h=>qm rfl<|qm rfl<|B5 (rs:=[.i x1]) rfl rfl (A2 rfl (A2 rfl B3)) ((T3 (Impl.app g1_h _) hx1).frz)<|A0 (A50 rfl rfl) rfl<|qm rfl<|es (ra1 rfl)<|C8 ?_
 obtain rfl:=os h
 exact retq trivial (A6 rfl B9) (A4 rfl B8) (A3 A5 A8)
def M1 (a0:(List PaFigure)) (a1:Int) (g2:(PaFigure→Option ByteArray)):Option Int :=
 (idx a0 a1).bind fun x1 =>
 (g2 x1).bind fun x2 =>
 (A1o x2).bind fun x3 =>
 if (!x3) = true then
  some 6
 else
  (slc a0 0 a1).bind fun x5 =>
  (F9 x5 (fun (y:PaFigure)=>L3 y g2 a0 a1)).bind fun x6 =>
  if x6 = true then
  some 5
  else
  some 0
theorem A3d {c:Sc} {H:A1} {a0:(List PaFigure)} {a1:Int} {g2:PaFigure→Option ByteArray} {g2_i:Nat} {g2_f g2_c:List AV} (g2_h:Impl tab H g2_i g2_f g2_c g2 (fun y=>[(.agg (B2 y))]) (fun y=>[.s y])) {r:Int} (h:M1 a0 a1 g2 = some r) :
  E8 tab c H (.fn (.func 67) [] []) [(.seq 4 (List.map B2 a0)),.i a1,.fn (.func g2_i) g2_f g2_c] [.i r]:= by
 unfold M1 at h
 refine cE rfl rfl<|sg 0 rfl<|A0 (F7 (cs:=(cL 4 B2) a0) rfl rfl rfl) rfl<|A0 (F7 (cs:=cI a1) rfl rfl rfl) rfl<|A0 (F7 (cs:=[(.fn (.func g2_i) g2_f g2_c)]) rfl rfl rfl) rfl<|qm rfl<|es (ra3 rfl rfl rfl)<|C6<|C9<|s0<|oB h fun x1 hx1 h=>oB h fun x2 hx2 h=>oB h fun x3 hx3 h=>A0 (B4 (x:=(.fn (.func g2_i) g2_f g2_c)) rfl rfl rfl) rfl<|A0 (B4 rfl rfl rfl) rfl<|A0 (B4 rfl rfl rfl) rfl<|A0 (G6 (f:=B2) rfl rfl hx1) rfl<|A0 (H6 rfl rfl) rfl<|B5 (rs:=[.s x2]) rfl rfl (A2 (D8 rfl) B3) (Impl.call g2_h hx2 _)<|B5 (rs:=[.b x3]) rfl rfl (A2 rfl B3) ((A78 hx3).frz)<|A0 (U5 rfl) rfl<|qm rfl<|es (ra4 rfl rfl rfl rfl)<|wi h rfl (fun hc4 h=>?_) fun hc4 h=>?_
 ·refine s0<|qm rfl<|es (ra1 rfl)<|C8 ?_
  obtain rfl:=os h
  exact retq trivial (A6 rfl B9) (A4 rfl B8) (A3 A5 A8)
 ·refine s0<|oB h fun x5 hx5 h=>oB h fun x6 hx6 h=>A0 (B4 rfl rfl rfl) rfl<|A0 (B4 rfl rfl rfl) rfl<|A0 (C0n (f:=B2) rfl rfl rfl hx5) rfl<|A0 (A1q rfl rfl) rfl<|B5 (rs:=[.b x6]) rfl rfl (A2 rfl (A2 rfl B3)) ((R3 (show Impl _ _ 83 [] [(.ptr (H.length + 2) 0),(.ptr (H.length + 0) 0),(.ptr (H.length + 1) 0)] (fun (y:PaFigure)=>L3 y g2 a0 a1) (fun (y:PaFigure)=>[(.agg (B2 y))]) (fun (y:Bool)=>[.b y]) from ⟨⟨A8,(by rw [List.length_append]; exact (A3 (P3 rfl) (A3 (P3 rfl) (A3 (P3 rfl) A8))))⟩,fun H' hle hag c y r hr=>(A1j (A2i (Impl.mono (Impl.app g2_h _) hle hag) (hag _ _ (D4 rfl)) (hag _ _ (D4 rfl)) (hag _ _ (D4 rfl)) hr)).frz⟩) hx6).frz)<|qm rfl<|es (ra1 rfl)<|wi h rfl (fun hc7 h=>?_) fun hc7 h=>?_
  ·refine s0<|qm rfl<|es (ra1 rfl)<|C8 ?_
   obtain rfl:=os h
   exact retq trivial (A6 rfl B9) (A4 rfl B8) (A3 A5 A8)
  ·refine C7<|s0<|qm rfl<|es (ra1 rfl)<|C8 ?_
   obtain rfl:=os h
   exact retq trivial (A6 rfl B9) (A4 rfl B8) (A3 A5 A8)
def M2 (a0:PaGown) (g1:(PaGown→Option ByteArray)) (a2:(List PaGown)) (a3:Int):Option Bool :=
 (g1 a0).bind fun x1 =>
 (idx a2 a3).bind fun x2 =>
 (g1 x2).bind fun x3 =>
 some (eqS x1 x3)
theorem A3e {c:Sc} {H:A1} {a0:PaGown} {g1:PaGown→Option ByteArray} {g1_i:Nat} {g1_f g1_c:List AV} (g1_h:Impl tab H g1_i g1_f g1_c g1 (fun y=>[(.agg (C1 y))]) (fun y=>[.s y])) {b1:Nat} (hb1:hcells H b1 = some [.fn (.func g1_i) g1_f g1_c]) {a2:(List PaGown)} {b2:Nat} (hb2:hcells H b2 = some ((cL 8 C1) a2)) {a3:Int} {b3:Nat} (hb3:hcells H b3 = some (cI a3)) {r:Bool} (h:M2 a0 g1 a2 a3 = some r) :
  E8 tab c H (.fn (.func 81) [] []) [(.agg (C1 a0)),.ptr b1 0,.ptr b2 0,.ptr b3 0] [.b r]:= by
 unfold M2 at h
 refine cE rfl rfl<|sg 0 rfl<|A0 (F7 (cs:=C1 a0) rfl rfl rfl) rfl<|qm rfl<|es (ra4 rfl rfl rfl rfl)<|s0<|oB h fun x1 hx1 h=>oB h fun x2 hx2 h=>oB h fun x3 hx3 h=>A0 (F2 (x:=(.fn (.func g1_i) g1_f g1_c)) rfl hb1 rfl) rfl<|A0 (E3 rfl rfl rfl) rfl<|T9 (rs:=[.s x1]) rfl rfl (A95 rfl A1t) (A2 (D8 rfl) B3) (Impl.callP g1_h hx1 _)<|A0 (F2 (x:=(.fn (.func g1_i) g1_f g1_c)) rfl hb1 rfl) rfl<|A0 (F2 rfl hb2 rfl) rfl<|A0 (F2 rfl hb3 rfl) rfl<|A0 (G6 (f:=C1) rfl rfl hx2) rfl<|A0 (H6 rfl rfl) rfl<|B5 (rs:=[.s x3]) rfl rfl (A2 (D8 rfl) B3) (Impl.call g1_h hx3 _)<|A0 (C6l rfl rfl) rfl<|qm rfl<|es (ra1 rfl)<|C8 ?_
 obtain rfl:=os h
 exact retq trivial (A6 rfl B9) (A4 rfl B8) (A3 A5 A8)
def J6 (a0:(List PaGown)) (g1:(PaGown→Option Bool)) (s1:Int):Option (Int ⊕ (Int ⊕ Unit)) :=
 if (decide (s1 < (List.length a0:Int))) = true then
  (idx a0 s1).bind fun x4 =>
  (g1 x4).bind fun x5 =>
  if x5 = true then
  some (.inr (.inl s1))
  else
  some (.inl (w64 (s1 + 1)))
 else
  some (.inr (.inr ()))
def K8 (a0:(List PaGown)) (g1:(PaGown→Option Bool)):Option Int :=
 (loop (J6 a0 g1) 0).bind fun (o7:(Int ⊕ Unit)) =>
 match o7 with
 | (.inl vo7_0) =>
  some vo7_0
 | (.inr vo7_1) =>
  some (-1)
theorem V8 {c:Sc} {H:A1} {a0:(List PaGown)} {g1:PaGown→Option Bool} {g1_i:Nat} {g1_f g1_c:List AV} (g1_h:Impl tab H g1_i g1_f g1_c g1 (fun y=>[(.agg (C1 y))]) (fun y=>[.b y])) {r:Int} (h:K8 a0 g1 = some r) :
  E8 tab c H (.fn (.func 97) [] []) [(.seq 8 (List.map C1 a0)),.fn (.func g1_i) g1_f g1_c] [.i r]:= by
 unfold K8 at h
 refine cE rfl rfl<|s0<|qm rfl<|es (ra2 rfl rfl)<|C6<|s0<|qm rfl<|A0 (G7 (f:=C1) rfl) rfl<|qm rfl<|es (ra4 rfl rfl rfl rfl)<|C9<|oB h fun o7 ho7 h=>wl (fun s1=>[(0,(.seq 8 (List.map C1 a0))),(1,(.fn (.func g1_i) g1_f g1_c)),(7,(.i (List.length a0:Int))),(8,.i s1)]) (fun (q2:Unit) s1=>[]) 0 (fun r e s' H'=>(match r with | (.inl v)=>e = .ret∧RetQ H [.tmp 4] [.i v] e s' H' | (.inr v)=>PX 0 [] (H++[]) e s' H':Prop)) () ho7 rfl rfl (fun _ _=>rfl) (fun _=>rfl) rfl (fun s1=>(bdc M4 (bdc (B9l g1_h.1) (bdc A5 (bdc A5 bdn))))) (fun q2 s1 ys1 hs1=>?_) ?_
 ·unfold J6 at hs1
  refine s0<|A0 (L4 rfl rfl) rfl<|es (ra5 rfl rfl rfl rfl rfl)<|C6<|wi hs1 rfl (fun hc3 hs1=>?_) fun hc3 hs1=>?_
  ·refine C7<|C6<|C9<|s0<|qm rfl<|qm rfl<|es (ra5 rfl rfl rfl rfl rfl)<|s0<|oB hs1 fun x4 hx4 hs1=>oB hs1 fun x5 hx5 hs1=>qm rfl<|qm rfl<|qm rfl<|A0 (G6 (f:=C1) rfl rfl hx4) rfl<|A0 (H6 rfl rfl) rfl<|B5 (rs:=[.b x5]) rfl rfl (A2 (D8 rfl) B3) (Impl.call g1_h hx5 _)<|es (ra6 rfl rfl rfl rfl rfl rfl)<|wi hs1 rfl (fun hc6 hs1=>?_) fun hc6 hs1=>?_
   ·refine s0<|qm rfl<|qm rfl<|es (ra1 rfl)<|C8 ?_
    obtain rfl:=os hs1
    exact lx rfl (And.intro rfl (retq trivial (A6 rfl B9) (A4 rfl B8) (A3 A5 A8))) (Sub.refl _)
   ·refine C7<|r0<|A0 (G1 rfl rfl) rfl<|qm rfl<|en (ra4 rfl rfl rfl rfl) ?_
    cases hs1
    exact lnT () rfl (su4 rfl rfl rfl rfl)
  ·refine J4 ?_
   obtain rfl:=os hs1
   exact lx rfl px (.nil _)
 ·rcases o7 with vo7_0 | vo7_1
  ·rintro e s' H' - ⟨rfl,hret⟩
   cases h
   exact hret
  ·rintro e s' H' - ⟨rfl,rfl,rfl⟩
   refine s0<|qm rfl<|es (ra1 rfl)<|C8 ?_
   obtain rfl:=os h
   exact retq trivial (A6 rfl B9) (A4 rfl B8) (A3 A5 A8)
def G9 (a0:(List PaGown)) (g1:(PaGown→Option Bool)):Option Bool :=
 (K8 a0 g1).bind fun x1 =>
 some (decide (x1 ≥ 0))
theorem T8 {c:Sc} {H:A1} {a0:(List PaGown)} {g1:PaGown→Option Bool} {g1_i:Nat} {g1_f g1_c:List AV} (g1_h:Impl tab H g1_i g1_f g1_c g1 (fun y=>[(.agg (C1 y))]) (fun y=>[.b y])) {r:Bool} (h:G9 a0 g1 = some r) :
  E8 tab c H (.fn (.func 80) [] []) [(.seq 8 (List.map C1 a0)),.fn (.func g1_i) g1_f g1_c] [.b r]:= by
 unfold G9 at h
 refine cE rfl rfl<|s0<|qm rfl<|es (ra2 rfl rfl)<|s0<|oB h fun x1 hx1 h=>qm rfl<|qm rfl<|B5 (rs:=[.i x1]) rfl rfl (A2 rfl (A2 rfl B3)) ((V8 (Impl.app g1_h _) hx1).frz)<|A0 (A50 rfl rfl) rfl<|qm rfl<|es (ra1 rfl)<|C8 ?_
 obtain rfl:=os h
 exact retq trivial (A6 rfl B9) (A4 rfl B8) (A3 A5 A8)
def N2 (a0:(List PaGown)) (a1:Int) (g2:(PaGown→Option ByteArray)):Option Int :=
 (idx a0 a1).bind fun x1 =>
 (g2 x1).bind fun x2 =>
 (A1o x2).bind fun x3 =>
 if (!x3) = true then
  some 6
 else
  (slc a0 0 a1).bind fun x5 =>
  (G9 x5 (fun (y:PaGown)=>M2 y g2 a0 a1)).bind fun x6 =>
  if x6 = true then
  some 5
  else
  some 0
theorem A4d {c:Sc} {H:A1} {a0:(List PaGown)} {a1:Int} {g2:PaGown→Option ByteArray} {g2_i:Nat} {g2_f g2_c:List AV} (g2_h:Impl tab H g2_i g2_f g2_c g2 (fun y=>[(.agg (C1 y))]) (fun y=>[.s y])) {r:Int} (h:N2 a0 a1 g2 = some r) :
  E8 tab c H (.fn (.func 64) [] []) [(.seq 8 (List.map C1 a0)),.i a1,.fn (.func g2_i) g2_f g2_c] [.i r]:= by
 unfold N2 at h
 refine cE rfl rfl<|sg 0 rfl<|A0 (F7 (cs:=(cL 8 C1) a0) rfl rfl rfl) rfl<|A0 (F7 (cs:=cI a1) rfl rfl rfl) rfl<|A0 (F7 (cs:=[(.fn (.func g2_i) g2_f g2_c)]) rfl rfl rfl) rfl<|qm rfl<|es (ra3 rfl rfl rfl)<|C6<|C9<|s0<|oB h fun x1 hx1 h=>oB h fun x2 hx2 h=>oB h fun x3 hx3 h=>A0 (B4 (x:=(.fn (.func g2_i) g2_f g2_c)) rfl rfl rfl) rfl<|A0 (B4 rfl rfl rfl) rfl<|A0 (B4 rfl rfl rfl) rfl<|A0 (G6 (f:=C1) rfl rfl hx1) rfl<|A0 (H6 rfl rfl) rfl<|B5 (rs:=[.s x2]) rfl rfl (A2 (D8 rfl) B3) (Impl.call g2_h hx2 _)<|B5 (rs:=[.b x3]) rfl rfl (A2 rfl B3) ((A78 hx3).frz)<|A0 (U5 rfl) rfl<|qm rfl<|es (ra4 rfl rfl rfl rfl)<|wi h rfl (fun hc4 h=>?_) fun hc4 h=>?_
 ·refine s0<|qm rfl<|es (ra1 rfl)<|C8 ?_
  obtain rfl:=os h
  exact retq trivial (A6 rfl B9) (A4 rfl B8) (A3 A5 A8)
 ·refine s0<|oB h fun x5 hx5 h=>oB h fun x6 hx6 h=>A0 (B4 rfl rfl rfl) rfl<|A0 (B4 rfl rfl rfl) rfl<|A0 (C0n (f:=C1) rfl rfl rfl hx5) rfl<|A0 (A1q rfl rfl) rfl<|B5 (rs:=[.b x6]) rfl rfl (A2 rfl (A2 rfl B3)) ((T8 (show Impl _ _ 81 [] [(.ptr (H.length + 2) 0),(.ptr (H.length + 0) 0),(.ptr (H.length + 1) 0)] (fun (y:PaGown)=>M2 y g2 a0 a1) (fun (y:PaGown)=>[(.agg (C1 y))]) (fun (y:Bool)=>[.b y]) from ⟨⟨A8,(by rw [List.length_append]; exact (A3 (P3 rfl) (A3 (P3 rfl) (A3 (P3 rfl) A8))))⟩,fun H' hle hag c y r hr=>(A1j (A3e (Impl.mono (Impl.app g2_h _) hle hag) (hag _ _ (D4 rfl)) (hag _ _ (D4 rfl)) (hag _ _ (D4 rfl)) hr)).frz⟩) hx6).frz)<|qm rfl<|es (ra1 rfl)<|wi h rfl (fun hc7 h=>?_) fun hc7 h=>?_
  ·refine s0<|qm rfl<|es (ra1 rfl)<|C8 ?_
   obtain rfl:=os h
   exact retq trivial (A6 rfl B9) (A4 rfl B8) (A3 A5 A8)
  ·refine C7<|s0<|qm rfl<|es (ra1 rfl)<|C8 ?_
   obtain rfl:=os h
   exact retq trivial (A6 rfl B9) (A4 rfl B8) (A3 A5 A8)
def Y2 (a0:Int) (a1:Int) (a2:Int):Option Bool :=
 some ((decide (a0 < a1)) || (decide (a0 > a2)))
theorem A92 {c:Sc} {H:A1} {a0:Int} {a1:Int} {b1:Nat} (hb1:hcells H b1 = some (cI a1)) {a2:Int} {b2:Nat} (hb2:hcells H b2 = some (cI a2)) {r:Bool} (h:Y2 a0 a1 a2 = some r) :
  E8 tab c H (.fn (.func 51) [] []) [.i a0,.ptr b1 0,.ptr b2 0] [.b r]:= by
 unfold Y2 at h
 refine cE rfl rfl<|s0<|qm rfl<|es (ra3 rfl rfl rfl)<|s0<|qm rfl<|A0 (F2 rfl hb1 rfl) rfl<|A0 (L4 rfl rfl) rfl<|qm rfl<|gp 4 12 (.b ((decide (a0 < a1)) || (decide (a0 > a2)))) 8 rfl rfl (fun hg1=>?_) (fun hg1=>?_) ?_
 ·exact nF rfl hg1 rfl<|nF rfl hg1 rfl<|nF rfl hg1 rfl<|A0 (C4 rfl hg1 rfl) rfl<|ge 4 (by rw [hg1]; rfl) rfl rfl
 ·exact gF rfl hg1<|qm rfl<|gF rfl hg1<|A0 (F2 rfl hb2 rfl) rfl<|gF rfl hg1<|A0 (A06 rfl rfl) rfl<|A0 (C3 rfl hg1 rfl) rfl<|ge 4 (by rw [hg1]; rfl) rfl rfl
 refine qm rfl<|es (ra1 rfl)<|C8 ?_
 obtain rfl:=os h
 exact retq trivial (A6 rfl B9) (A4 rfl B8) (A3 A5 A8)
def P9 (a0:(List Int)) (g1:(Int→Option Bool)) (s1:Int):Option (Int ⊕ (Int ⊕ Unit)) :=
 if (decide (s1 < (List.length a0:Int))) = true then
  (idx a0 s1).bind fun x4 =>
  (g1 x4).bind fun x5 =>
  if x5 = true then
  some (.inr (.inl s1))
  else
  some (.inl (w64 (s1 + 1)))
 else
  some (.inr (.inr ()))
def T0 (a0:(List Int)) (g1:(Int→Option Bool)):Option Int :=
 (loop (P9 a0 g1) 0).bind fun (o7:(Int ⊕ Unit)) =>
 match o7 with
 | (.inl vo7_0) =>
  some vo7_0
 | (.inr vo7_1) =>
  some (-1)
theorem A2q {c:Sc} {H:A1} {a0:(List Int)} {g1:Int→Option Bool} {g1_i:Nat} {g1_f g1_c:List AV} (g1_h:Impl tab H g1_i g1_f g1_c g1 (fun y=>[.i y]) (fun y=>[.b y])) {r:Int} (h:T0 a0 g1 = some r) :
  E8 tab c H (.fn (.func 71) [] []) [(.seq 1 (List.map cI a0)),.fn (.func g1_i) g1_f g1_c] [.i r]:= by
 unfold T0 at h
 refine cE rfl rfl<|s0<|qm rfl<|es (ra2 rfl rfl)<|C6<|s0<|qm rfl<|A0 (G7 (f:=cI) rfl) rfl<|qm rfl<|es (ra4 rfl rfl rfl rfl)<|C9<|oB h fun o7 ho7 h=>wl (fun s1=>[(0,(.seq 1 (List.map cI a0))),(1,(.fn (.func g1_i) g1_f g1_c)),(7,(.i (List.length a0:Int))),(8,.i s1)]) (fun (q2:Unit) s1=>[]) 0 (fun r e s' H'=>(match r with | (.inl v)=>e = .ret∧RetQ H [.tmp 4] [.i v] e s' H' | (.inr v)=>PX 0 [] (H++[]) e s' H':Prop)) () ho7 rfl rfl (fun _ _=>rfl) (fun _=>rfl) rfl (fun s1=>(bdc M4 (bdc (B9l g1_h.1) (bdc A5 (bdc A5 bdn))))) (fun q2 s1 ys1 hs1=>?_) ?_
 ·unfold P9 at hs1
  refine s0<|A0 (L4 rfl rfl) rfl<|es (ra5 rfl rfl rfl rfl rfl)<|C6<|wi hs1 rfl (fun hc3 hs1=>?_) fun hc3 hs1=>?_
  ·refine C7<|C6<|C9<|s0<|qm rfl<|qm rfl<|es (ra5 rfl rfl rfl rfl rfl)<|s0<|oB hs1 fun x4 hx4 hs1=>oB hs1 fun x5 hx5 hs1=>qm rfl<|qm rfl<|qm rfl<|A0 (G6 (f:=cI) rfl rfl hx4) rfl<|A0 (T5 rfl rfl) rfl<|B5 (rs:=[.b x5]) rfl rfl (A2 rfl B3) (Impl.call g1_h hx5 _)<|es (ra6 rfl rfl rfl rfl rfl rfl)<|wi hs1 rfl (fun hc6 hs1=>?_) fun hc6 hs1=>?_
   ·refine s0<|qm rfl<|qm rfl<|es (ra1 rfl)<|C8 ?_
    obtain rfl:=os hs1
    exact lx rfl (And.intro rfl (retq trivial (A6 rfl B9) (A4 rfl B8) (A3 A5 A8))) (Sub.refl _)
   ·refine C7<|r0<|A0 (G1 rfl rfl) rfl<|qm rfl<|en (ra4 rfl rfl rfl rfl) ?_
    cases hs1
    exact lnT () rfl (su4 rfl rfl rfl rfl)
  ·refine J4 ?_
   obtain rfl:=os hs1
   exact lx rfl px (.nil _)
 ·rcases o7 with vo7_0 | vo7_1
  ·rintro e s' H' - ⟨rfl,hret⟩
   cases h
   exact hret
  ·rintro e s' H' - ⟨rfl,rfl,rfl⟩
   refine s0<|qm rfl<|es (ra1 rfl)<|C8 ?_
   obtain rfl:=os h
   exact retq trivial (A6 rfl B9) (A4 rfl B8) (A3 A5 A8)
def M3 (a0:(List Int)) (g1:(Int→Option Bool)):Option Bool :=
 (T0 a0 g1).bind fun x1 =>
 some (decide (x1 ≥ 0))
theorem A1s {c:Sc} {H:A1} {a0:(List Int)} {g1:Int→Option Bool} {g1_i:Nat} {g1_f g1_c:List AV} (g1_h:Impl tab H g1_i g1_f g1_c g1 (fun y=>[.i y]) (fun y=>[.b y])) {r:Bool} (h:M3 a0 g1 = some r) :
  E8 tab c H (.fn (.func 50) [] []) [(.seq 1 (List.map cI a0)),.fn (.func g1_i) g1_f g1_c] [.b r]:= by
 unfold M3 at h
 refine cE rfl rfl<|s0<|qm rfl<|es (ra2 rfl rfl)<|s0<|oB h fun x1 hx1 h=>qm rfl<|qm rfl<|B5 (rs:=[.i x1]) rfl rfl (A2 rfl (A2 rfl B3)) ((A2q (Impl.app g1_h _) hx1).frz)<|A0 (A50 rfl rfl) rfl<|qm rfl<|es (ra1 rfl)<|C8 ?_
 obtain rfl:=os h
 exact retq trivial (A6 rfl B9) (A4 rfl B8) (A3 A5 A8)
def E7 (a0:Int) (a1:Int) (a2:(List Int)):Option Bool :=
 (M3 a2 (fun (y:Int)=>Y2 y a0 a1)).bind fun x1 =>
 some x1
theorem E5 {c:Sc} {H:A1} {a0:Int} {a1:Int} {a2:(List Int)} {r:Bool} (h:E7 a0 a1 a2 = some r) :
  E8 tab c H (.fn (.func 24) [] []) [.i a0,.i a1,(.seq 1 (List.map cI a2))] [.b r]:= by
 unfold E7 at h
 refine cE rfl rfl<|sg 0 rfl<|A0 (F7 (cs:=cI a0) rfl rfl rfl) rfl<|A0 (F7 (cs:=cI a1) rfl rfl rfl) rfl<|qm rfl<|es (ra3 rfl rfl rfl)<|s0<|oB h fun x1 hx1 h=>qm rfl<|A0 (A1q rfl rfl) rfl<|B5 (rs:=[.b x1]) rfl rfl (A2 rfl (A2 rfl B3)) ((A1s (show Impl _ _ 51 [] [(.ptr (H.length + 0) 0),(.ptr (H.length + 1) 0)] (fun (y:Int)=>Y2 y a0 a1) (fun (y:Int)=>[.i y]) (fun (y:Bool)=>[.b y]) from ⟨⟨A8,(by rw [List.length_append]; exact (A3 (P3 rfl) (A3 (P3 rfl) A8)))⟩,fun H' hle hag c y r hr=>(A1j (A92 (hag _ _ (D4 rfl)) (hag _ _ (D4 rfl)) hr)).frz⟩) hx1).frz)<|qm rfl<|es (ra1 rfl)<|C8 ?_
 obtain rfl:=os h
 exact retq trivial (A6 rfl B9) (A4 rfl B8) (A3 A5 A8)
def A3h (a0:PaGown):Option Bool :=
 if (!a0.Pawn) = true then
  (E7 0 15 [a0.Looks]).bind fun x2 =>
  (if x2 = true then
  some true
  else
  (E7 0 0 [a0.Loan,a0.Rate,a0.Fee,a0.Ago,a0.Last]).bind fun x4 =>
  some x4).bind fun x5 =>
  some x5
 else
  (E7 0 15 [a0.Looks]).bind fun x6 =>
  (if x6 = true then
  some true
  else
  (E7 0 5000 [a0.Loan]).bind fun x8 =>
  some x8).bind fun x9 =>
  (if x9 = true then
  some true
  else
  (E7 0 500 [a0.Rate]).bind fun x11 =>
  some x11).bind fun x12 =>
  (if x12 = true then
  some true
  else
  (E7 0 100 [a0.Fee]).bind fun x14 =>
  some x14).bind fun x15 =>
  (if x15 = true then
  some true
  else
  (E7 0 364 [a0.Ago,a0.Last]).bind fun x17 =>
  some x17).bind fun x18 =>
  some x18
theorem B54 {c:Sc} {H:A1} {a0:PaGown} {r:Bool} (h:A3h a0 = some r) :
  E8 tab c H (.fn (.func 66) [] []) [(.agg (C1 a0))] [.b r]:= by
 unfold A3h at h
 refine cE rfl rfl<|sg 0 rfl<|A0 (F7 (cs:=C1 a0) rfl rfl rfl) rfl<|qm rfl<|es (ra1 rfl)<|C6<|s0<|A0 (C2 rfl) rfl<|A0 (B4 rfl rfl rfl) rfl<|A0 (U5 rfl) rfl<|es (ra2 rfl rfl)<|wi h rfl (fun hc1 h=>?_) fun hc1 h=>?_
 ·refine s0<|oB h fun x2 hx2 h=>oB h fun x5 hx5 h=>A0 (C2 rfl) rfl<|A0 (B4 rfl rfl rfl) rfl<|A0 (I5 (rows:=List.map cI [a0.Looks]) rfl rfl (E0 (fun _=>rfl) _)) rfl<|B5 (rs:=[.b x2]) rfl rfl (A2 rfl (A2 rfl (A2 rfl B3))) ((E5 hx2).frz)<|qm rfl<|gp 13 23 (.b x5) 10 rfl rfl (fun hg3=>?_) (fun hg3=>?_) ?_
  ·obtain rfl:=os (bt hx5 hg3)
   exact nF rfl hg3 rfl<|nF rfl hg3 rfl<|nF rfl hg3 rfl<|nF rfl hg3 rfl<|nF rfl hg3 rfl<|nF rfl hg3 rfl<|nF rfl hg3 rfl<|nF rfl hg3 rfl<|nF rfl hg3 rfl<|nF rfl hg3 rfl<|nF rfl hg3 rfl<|H8 (D9 rfl (by rw [hg3]; rfl)) rfl<|A0 (C4 rfl hg3 rfl) rfl<|ge 13 rfl rfl rfl
  ·refine oB (bf hx5 hg3) fun x4 hx4 hx5=>?_
   obtain rfl:=os hx5
   exact gF rfl hg3<|A0 (C2 rfl) rfl<|gF rfl hg3<|A0 (B4 rfl rfl rfl) rfl<|gF rfl hg3<|A0 (C2 rfl) rfl<|gF rfl hg3<|A0 (B4 rfl rfl rfl) rfl<|gF rfl hg3<|A0 (C2 rfl) rfl<|gF rfl hg3<|A0 (B4 rfl rfl rfl) rfl<|gF rfl hg3<|A0 (C2 rfl) rfl<|gF rfl hg3<|A0 (B4 rfl rfl rfl) rfl<|gF rfl hg3<|A0 (C2 rfl) rfl<|gF rfl hg3<|A0 (B4 rfl rfl rfl) rfl<|gF rfl hg3<|A0 (I5 (rows:=List.map cI [a0.Loan,a0.Rate,a0.Fee,a0.Ago,a0.Last]) rfl rfl (E0 (fun _=>rfl) _)) rfl<|gF rfl hg3<|B5 (rs:=[.b x4]) rfl rfl (A2 rfl (A2 rfl (A2 rfl B3))) ((E5 hx4).frz)<|A0 (C3 rfl hg3 rfl) rfl<|ge 13 rfl rfl rfl
  refine qm rfl<|es (ra1 rfl)<|C8 ?_
  obtain rfl:=os h
  exact retq trivial (A6 rfl B9) (A4 rfl B8) (A3 A5 A8)
 ·refine C7<|s0<|oB h fun x6 hx6 h=>oB h fun x9 hx9 h=>oB h fun x12 hx12 h=>oB h fun x15 hx15 h=>oB h fun x18 hx18 h=>A0 (C2 rfl) rfl<|A0 (B4 rfl rfl rfl) rfl<|A0 (I5 (rows:=List.map cI [a0.Looks]) rfl rfl (E0 (fun _=>rfl) _)) rfl<|B5 (rs:=[.b x6]) rfl rfl (A2 rfl (A2 rfl (A2 rfl B3))) ((E5 hx6).frz)<|qm rfl<|gp 5 33 (.b x9) 28 rfl rfl (fun hg7=>?_) (fun hg7=>?_) ?_
  ·obtain rfl:=os (bt hx9 hg7)
   exact nF rfl hg7 rfl<|nF rfl hg7 rfl<|nF rfl hg7 rfl<|H8 (D9 rfl (by rw [hg7]; rfl)) rfl<|A0 (C4 rfl hg7 rfl) rfl<|ge 5 rfl rfl rfl
  ·refine oB (bf hx9 hg7) fun x8 hx8 hx9=>?_
   obtain rfl:=os hx9
   exact gF rfl hg7<|A0 (C2 rfl) rfl<|gF rfl hg7<|A0 (B4 rfl rfl rfl) rfl<|gF rfl hg7<|A0 (I5 (rows:=List.map cI [a0.Loan]) rfl rfl (E0 (fun _=>rfl) _)) rfl<|gF rfl hg7<|B5 (rs:=[.b x8]) rfl rfl (A2 rfl (A2 rfl (A2 rfl B3))) ((E5 hx8).frz)<|A0 (C3 rfl hg7 rfl) rfl<|ge 5 rfl rfl rfl
  refine qm rfl<|gp 5 39 (.b x12) 34 rfl rfl (fun hg10=>?_) (fun hg10=>?_) ?_
  ·obtain rfl:=os (bt hx12 hg10)
   exact nF rfl hg10 rfl<|nF rfl hg10 rfl<|nF rfl hg10 rfl<|H8 (D9 rfl (by rw [hg10]; rfl)) rfl<|A0 (C4 rfl hg10 rfl) rfl<|ge 5 rfl rfl rfl
  ·refine oB (bf hx12 hg10) fun x11 hx11 hx12=>?_
   obtain rfl:=os hx12
   exact gF rfl hg10<|A0 (C2 rfl) rfl<|gF rfl hg10<|A0 (B4 rfl rfl rfl) rfl<|gF rfl hg10<|A0 (I5 (rows:=List.map cI [a0.Rate]) rfl rfl (E0 (fun _=>rfl) _)) rfl<|gF rfl hg10<|B5 (rs:=[.b x11]) rfl rfl (A2 rfl (A2 rfl (A2 rfl B3))) ((E5 hx11).frz)<|A0 (C3 rfl hg10 rfl) rfl<|ge 5 rfl rfl rfl
  refine qm rfl<|gp 5 45 (.b x15) 40 rfl rfl (fun hg13=>?_) (fun hg13=>?_) ?_
  ·obtain rfl:=os (bt hx15 hg13)
   exact nF rfl hg13 rfl<|nF rfl hg13 rfl<|nF rfl hg13 rfl<|H8 (D9 rfl (by rw [hg13]; rfl)) rfl<|A0 (C4 rfl hg13 rfl) rfl<|ge 5 rfl rfl rfl
  ·refine oB (bf hx15 hg13) fun x14 hx14 hx15=>?_
   obtain rfl:=os hx15
   exact gF rfl hg13<|A0 (C2 rfl) rfl<|gF rfl hg13<|A0 (B4 rfl rfl rfl) rfl<|gF rfl hg13<|A0 (I5 (rows:=List.map cI [a0.Fee]) rfl rfl (E0 (fun _=>rfl) _)) rfl<|gF rfl hg13<|B5 (rs:=[.b x14]) rfl rfl (A2 rfl (A2 rfl (A2 rfl B3))) ((E5 hx14).frz)<|A0 (C3 rfl hg13 rfl) rfl<|ge 5 rfl rfl rfl
  refine qm rfl<|gp 7 53 (.b x18) 46 rfl rfl (fun hg16=>?_) (fun hg16=>?_) ?_
  ·obtain rfl:=os (bt hx18 hg16)
   exact nF rfl hg16 rfl<|nF rfl hg16 rfl<|nF rfl hg16 rfl<|nF rfl hg16 rfl<|nF rfl hg16 rfl<|H8 (D9 rfl (by rw [hg16]; rfl)) rfl<|A0 (C4 rfl hg16 rfl) rfl<|ge 7 rfl rfl rfl
  ·refine oB (bf hx18 hg16) fun x17 hx17 hx18=>?_
   obtain rfl:=os hx18
   exact gF rfl hg16<|A0 (C2 rfl) rfl<|gF rfl hg16<|A0 (B4 rfl rfl rfl) rfl<|gF rfl hg16<|A0 (C2 rfl) rfl<|gF rfl hg16<|A0 (B4 rfl rfl rfl) rfl<|gF rfl hg16<|A0 (I5 (rows:=List.map cI [a0.Ago,a0.Last]) rfl rfl (E0 (fun _=>rfl) _)) rfl<|gF rfl hg16<|B5 (rs:=[.b x17]) rfl rfl (A2 rfl (A2 rfl (A2 rfl B3))) ((E5 hx17).frz)<|A0 (C3 rfl hg16 rfl) rfl<|ge 7 rfl rfl rfl
  refine qm rfl<|es (ra1 rfl)<|C8 ?_
  obtain rfl:=os h
  exact retq trivial (A6 rfl B9) (A4 rfl B8) (A3 A5 A8)
def A0g (a0:PaShow) (s2:Int):Option (Int ⊕ ((Int × Int × Int) ⊕ Unit)) :=
 if (decide (s2 < (List.length a0.Gowns:Int))) = true then
  (idx a0.Gowns s2).bind fun x5 =>
  (N2 a0.Gowns s2 (fun (y:PaGown)=>Z2 y)).bind fun x6 =>
  (if (x6 == 0) = true then
  (A3h x5).bind fun x8 =>
  some x8
  else
  some false).bind fun x9 =>
  if x9 = true then
  some (.inr (.inl (1,s2,7)))
  else
  if (x6 != 0) = true then
   some (.inr (.inl (1,s2,x6)))
  else
   some (.inl (w64 (s2 + 1)))
 else
  some (.inr (.inr ()))
def A0h (a0:PaShow) (s14:Int):Option (Int ⊕ ((Int × Int × Int) ⊕ Unit)) :=
 if (decide (s14 < (List.length a0.Figures:Int))) = true then
  (idx a0.Figures s14).bind fun x17 =>
  (M1 a0.Figures s14 (fun (y:PaFigure)=>Z3 y)).bind fun x18 =>
  if (x18 != 0) = true then
  some (.inr (.inl (2,s14,x18)))
  else
  (E7 0 364 [x17.Day,x17.Until]).bind fun x20 =>
  (if x20 = true then
   some true
  else
   (E7 0 15 [x17.Needs]).bind fun x22 =>
   some x22).bind fun x23 =>
  if x23 = true then
   some (.inr (.inl (2,s14,7)))
  else
   if (decide (x17.Day > x17.Until)) = true then
   some (.inr (.inl (2,s14,2)))
   else
   some (.inl (w64 (s14 + 1)))
 else
  some (.inr (.inr ()))
def A0i (a0:PaShow) (s30:Int):Option (Int ⊕ ((Int × Int × Int) ⊕ Unit)) :=
 if (decide (s30 < (List.length a0.Incomes:Int))) = true then
  (idx a0.Incomes s30).bind fun x33 =>
  (E7 0 364 [x33.Day]).bind fun x34 =>
  (if x34 = true then
  some true
  else
  (E7 0 10000 [x33.Pence]).bind fun x36 =>
  some x36).bind fun x37 =>
  if x37 = true then
  some (.inr (.inl (4,s30,7)))
  else
  some (.inl (w64 (s30 + 1)))
 else
  some (.inr (.inr ()))
def A1u (a0:PaShow):Option (Int × Int × Int) :=
 if (decide ((List.length a0.Gowns:Int) > 5)) = true then
  some (1,0,3)
 else
  (loop (A0g a0) 0).bind fun (o12:((Int × Int × Int) ⊕ Unit)) =>
  match o12 with
  | (.inl vo12_0) =>
  some vo12_0
  | (.inr vo12_1) =>
  if (decide ((List.length a0.Figures:Int) > 3)) = true then
   some (2,0,3)
  else
   (loop (A0h a0) 0).bind fun (o26:((Int × Int × Int) ⊕ Unit)) =>
   match o26 with
   | (.inl vo26_0) =>
   some vo26_0
   | (.inr vo26_1) =>
   (E7 0 10000 [a0.Purse]).bind fun x27 =>
   if x27 = true then
    some (3,0,7)
   else
    if (decide ((List.length a0.Incomes:Int) > 3)) = true then
    some (4,0,3)
    else
    (loop (A0i a0) 0).bind fun (o39:((Int × Int × Int) ⊕ Unit)) =>
    match o39 with
    | (.inl vo39_0) =>
     some vo39_0
    | (.inr vo39_1) =>
     some (0,0,0)
theorem A79 {c:Sc} {H:A1} {a0:PaShow} {r:(Int × Int × Int)} (h:A1u a0 = some r) :
  E8 tab c H (.fn (.func 40) [] []) [(.agg (C0 a0))] [.i r.1,.i r.2.1,.i r.2.2]:= by
 unfold A1u at h
 refine cE rfl rfl<|sg 0 rfl<|A0 (F7 (cs:=C0 a0) rfl rfl rfl) rfl<|qm rfl<|qm rfl<|qm rfl<|es (ra1 rfl)<|C6<|s0<|A0 (C2 rfl) rfl<|A0 (B4 rfl rfl rfl) rfl<|A0 (G7 (f:=C1) rfl) rfl<|A0 (A06 rfl rfl) rfl<|es (ra2 rfl rfl)<|wi h rfl (fun hc1 h=>?_) fun hc1 h=>?_
 ·refine s0<|qm rfl<|qm rfl<|qm rfl<|es (ra3 rfl rfl rfl)<|C8 ?_
  obtain rfl:=os h
  exact retq trivial (A6 rfl (A6 rfl (A6 rfl B9))) (A4 rfl (A4 rfl (A4 rfl B8))) (A3 A5 (A3 A5 (A3 A5 A8)))
 ·refine C7<|C6<|s0<|A0 (C2 rfl) rfl<|A0 (B4 rfl rfl rfl) rfl<|A0 (G7 (f:=C1) rfl) rfl<|qm rfl<|es (ra4 rfl rfl rfl rfl)<|C9<|oB h fun o12 ho12 h=>wl (fun s2=>[(1,(.ptr (H.length + 0) 0)),(16,(.seq 8 (List.map C1 a0.Gowns))),(17,(.i (List.length a0.Gowns:Int))),(18,.i s2)]) (fun (q3:Unit) s2=>[(.cells (C0 a0))]) 1 (fun r e s' H'=>(match r with | (.inl v)=>e = .ret∧RetQ H [.tmp 2,.tmp 3,.tmp 4] [.i v.1,.i v.2.1,.i v.2.2] e s' H' | (.inr v)=>PX 0 [(1,(.ptr (H.length + 0) 0))] (H++[(.cells (C0 a0))]) e s' H':Prop)) () ho12 rfl rfl (fun _ _=>rfl) (fun _=>rfl) rfl (fun s2=>(bdc (P3 rfl) (bdc M4 (bdc A5 (bdc A5 bdn))))) (fun q3 s2 ys2 hs2=>?_) ?_
  ·unfold A0g at hs2
   refine s0<|A0 (L4 rfl rfl) rfl<|es (ra5 rfl rfl rfl rfl rfl)<|C6<|wi hs2 rfl (fun hc4 hs2=>?_) fun hc4 hs2=>?_
   ·refine C7<|C6<|C9<|sg 1 rfl<|oB hs2 fun x5 hx5 hs2=>qm rfl<|A0 (G6 (f:=C1) rfl rfl hx5) rfl<|A0 (H6 rfl rfl) rfl<|A0 H9 rfl<|qm rfl<|N0 (E6 (ds:=(C1 x5)) rfl rfl rfl rfl (E1 rfl) rfl) rfl<|es (ra6 rfl rfl rfl rfl rfl rfl)<|s0<|oB hs2 fun x6 hx6 hs2=>A0 (C2 rfl) rfl<|A0 (B4 rfl rfl rfl) rfl<|qm rfl<|B5 (rs:=[.i x6]) rfl rfl (A2 rfl (A2 rfl (A2 rfl B3))) ((A4d (show Impl _ _ 65 [] [] (fun (y:PaGown)=>Z2 y) (fun (y:PaGown)=>[(.agg (C1 y))]) (fun (y:ByteArray)=>[.s y]) from ⟨⟨A8,A8⟩,fun H' hle hag c y r hr=>(B2y hr).frz⟩) hx6).frz)<|qm rfl<|es (ra7 rfl rfl rfl rfl rfl rfl rfl)<|C6<|s0<|oB hs2 fun x9 hx9 hs2=>qm rfl<|A0 (F8 rfl rfl) rfl<|qm rfl<|gp 3 32 (.b x9) 29 rfl rfl (fun hg7=>?_) (fun hg7=>?_) ?_
    ·refine oB (bt hx9 hg7) fun x8 hx8 hx9=>?_
     obtain rfl:=os hx9
     exact gT rfl hg7<|A0 (E3 rfl rfl rfl) rfl<|gT rfl hg7<|B5 (rs:=[.b x8]) rfl rfl (A2 (D8 rfl) B3) ((B54 hx8).frz)<|A0 (C4 rfl hg7 rfl) rfl<|ge 3 rfl rfl rfl
    ·obtain rfl:=os (bf hx9 hg7)
     exact nT rfl hg7 rfl<|H8 (D9 rfl (by rw [hg7]; rfl)) rfl<|A0 (C3 rfl hg7 rfl) rfl<|ge 3 rfl rfl rfl
    refine es (ra7 rfl rfl rfl rfl rfl rfl rfl)<|wi hs2 rfl (fun hc10 hs2=>?_) fun hc10 hs2=>?_
    ·refine r0<|qm rfl<|en (ra6 rfl rfl rfl rfl rfl rfl)<|s0<|qm rfl<|A0 (O5 (v:=(.b true)) rfl rfl rfl) rfl<|es (ra7 rfl rfl rfl rfl rfl rfl rfl)<|M7 rfl rfl<|s0<|qm rfl<|qm rfl<|qm rfl<|qm rfl<|qm rfl<|es (ra3 rfl rfl rfl)<|C8 ?_
     obtain rfl:=os hs2
     exact lx rfl (And.intro rfl (retq trivial (A6 rfl (A6 rfl (A6 rfl B9))) (A4 rfl (A4 rfl (A4 rfl B8))) (A3 A5 (A3 A5 (A3 A5 A8))))) (Sub.refl _)
    ·refine C7<|s0<|qm rfl<|A0 (N5 rfl rfl) rfl<|es (ra7 rfl rfl rfl rfl rfl rfl rfl)<|wi hs2 rfl (fun hc11 hs2=>?_) fun hc11 hs2=>?_
     ·refine s0<|qm rfl<|qm rfl<|qm rfl<|qm rfl<|qm rfl<|es (ra3 rfl rfl rfl)<|C8 ?_
      obtain rfl:=os hs2
      exact lx rfl (And.intro rfl (retq trivial (A6 rfl (A6 rfl (A6 rfl B9))) (A4 rfl (A4 rfl (A4 rfl B8))) (A3 A5 (A3 A5 (A3 A5 A8))))) (Sub.refl _)
     ·refine C7<|r0<|A0 (G1 rfl rfl) rfl<|qm rfl<|en (ra4 rfl rfl rfl rfl) ?_
      cases hs2
      exact lnT () rfl (su4 rfl rfl rfl rfl)
   ·refine J4 ?_
    obtain rfl:=os hs2
    exact lx rfl px (su1 rfl)
  ·rcases o12 with vo12_0 | vo12_1
   ·rintro e s' H' - ⟨rfl,hret⟩
    cases h
    exact hret
   ·rintro e s' H' - ⟨rfl,rfl,rfl⟩
    refine C6<|s0<|A0 (C2 rfl) rfl<|A0 (B4 rfl rfl rfl) rfl<|A0 (G7 (f:=B2) rfl) rfl<|A0 (A06 rfl rfl) rfl<|es (ra2 rfl rfl)<|wi h rfl (fun hc13 h=>?_) fun hc13 h=>?_
    ·refine s0<|qm rfl<|qm rfl<|qm rfl<|es (ra3 rfl rfl rfl)<|C8 ?_
     obtain rfl:=os h
     exact retq trivial (A6 rfl (A6 rfl (A6 rfl B9))) (A4 rfl (A4 rfl (A4 rfl B8))) (A3 A5 (A3 A5 (A3 A5 A8)))
    ·refine C7<|C6<|s0<|A0 (C2 rfl) rfl<|A0 (B4 rfl rfl rfl) rfl<|A0 (G7 (f:=B2) rfl) rfl<|qm rfl<|es (ra4 rfl rfl rfl rfl)<|C9<|oB h fun o26 ho26 h=>wl (fun s14=>[(1,(.ptr (H.length + 0) 0)),(43,(.seq 4 (List.map B2 a0.Figures))),(44,(.i (List.length a0.Figures:Int))),(45,.i s14)]) (fun (q15:Unit) s14=>[(.cells (C0 a0))]) 1 (fun r e s' H'=>(match r with | (.inl v)=>e = .ret∧RetQ H [.tmp 2,.tmp 3,.tmp 4] [.i v.1,.i v.2.1,.i v.2.2] e s' H' | (.inr v)=>PX 2 [(1,(.ptr (H.length + 0) 0))] (H++[(.cells (C0 a0))]) e s' H':Prop)) () ho26 rfl rfl (fun _ _=>rfl) (fun _=>rfl) rfl (fun s14=>(bdc (P3 rfl) (bdc M4 (bdc A5 (bdc A5 bdn))))) (fun q15 s14 ys14 hs14=>?_) ?_
     ·unfold A0h at hs14
      refine s0<|A0 (L4 rfl rfl) rfl<|es (ra5 rfl rfl rfl rfl rfl)<|C6<|wi hs14 rfl (fun hc16 hs14=>?_) fun hc16 hs14=>?_
      ·refine C7<|C6<|C9<|sg 1 rfl<|oB hs14 fun x17 hx17 hs14=>qm rfl<|A0 (G6 (f:=B2) rfl rfl hx17) rfl<|A0 (H6 rfl rfl) rfl<|A0 H9 rfl<|qm rfl<|N0 (E6 (ds:=(B2 x17)) rfl rfl rfl rfl (E1 rfl) rfl) rfl<|es (ra6 rfl rfl rfl rfl rfl rfl)<|s0<|oB hs14 fun x18 hx18 hs14=>A0 (C2 rfl) rfl<|A0 (B4 rfl rfl rfl) rfl<|qm rfl<|B5 (rs:=[.i x18]) rfl rfl (A2 rfl (A2 rfl (A2 rfl B3))) ((A3d (show Impl _ _ 68 [] [] (fun (y:PaFigure)=>Z3 y) (fun (y:PaFigure)=>[(.agg (B2 y))]) (fun (y:ByteArray)=>[.s y]) from ⟨⟨A8,A8⟩,fun H' hle hag c y r hr=>(B2z hr).frz⟩) hx18).frz)<|qm rfl<|es (ra7 rfl rfl rfl rfl rfl rfl rfl)<|C6<|C9<|s0<|qm rfl<|A0 (N5 rfl rfl) rfl<|qm rfl<|es (ra8 rfl rfl rfl rfl rfl rfl rfl rfl)<|wi hs14 rfl (fun hc19 hs14=>?_) fun hc19 hs14=>?_
       ·refine C7<|s0<|qm rfl<|A0 (N5 rfl rfl) rfl<|es (ra7 rfl rfl rfl rfl rfl rfl rfl)<|M7 rfl hc19<|s0<|qm rfl<|qm rfl<|qm rfl<|qm rfl<|qm rfl<|es (ra3 rfl rfl rfl)<|C8 ?_
        obtain rfl:=os hs14
        exact lx rfl (And.intro rfl (retq trivial (A6 rfl (A6 rfl (A6 rfl B9))) (A4 rfl (A4 rfl (A4 rfl B8))) (A3 A5 (A3 A5 (A3 A5 A8))))) (Sub.refl _)
       ·refine s0<|oB hs14 fun x20 hx20 hs14=>oB hs14 fun x23 hx23 hs14=>A0 (C2 rfl) rfl<|A0 (B4 rfl rfl rfl) rfl<|A0 (C2 rfl) rfl<|A0 (B4 rfl rfl rfl) rfl<|A0 (I5 (rows:=List.map cI [x17.Day,x17.Until]) rfl rfl (E0 (fun _=>rfl) _)) rfl<|B5 (rs:=[.b x20]) rfl rfl (A2 rfl (A2 rfl (A2 rfl B3))) ((E5 hx20).frz)<|qm rfl<|gp 5 69 (.b x23) 64 rfl rfl (fun hg21=>?_) (fun hg21=>?_) ?_
        ·obtain rfl:=os (bt hx23 hg21)
         exact nF rfl hg21 rfl<|nF rfl hg21 rfl<|nF rfl hg21 rfl<|H8 (D9 rfl (by rw [hg21]; rfl)) rfl<|A0 (C4 rfl hg21 rfl) rfl<|ge 5 rfl rfl rfl
        ·refine oB (bf hx23 hg21) fun x22 hx22 hx23=>?_
         obtain rfl:=os hx23
         exact gF rfl hg21<|A0 (C2 rfl) rfl<|gF rfl hg21<|A0 (B4 rfl rfl rfl) rfl<|gF rfl hg21<|A0 (I5 (rows:=List.map cI [x17.Needs]) rfl rfl (E0 (fun _=>rfl) _)) rfl<|gF rfl hg21<|B5 (rs:=[.b x22]) rfl rfl (A2 rfl (A2 rfl (A2 rfl B3))) ((E5 hx22).frz)<|A0 (C3 rfl hg21 rfl) rfl<|ge 5 rfl rfl rfl
        refine qm rfl<|es (ra8 rfl rfl rfl rfl rfl rfl rfl rfl)<|wi hs14 rfl (fun hc24 hs14=>?_) fun hc24 hs14=>?_
        ·refine r0<|qm rfl<|en (ra6 rfl rfl rfl rfl rfl rfl)<|s0<|qm rfl<|A0 (O5 (v:=(.b true)) rfl rfl rfl) rfl<|es (ra7 rfl rfl rfl rfl rfl rfl rfl)<|M7 rfl rfl<|s0<|qm rfl<|qm rfl<|qm rfl<|qm rfl<|qm rfl<|es (ra3 rfl rfl rfl)<|C8 ?_
         obtain rfl:=os hs14
         exact lx rfl (And.intro rfl (retq trivial (A6 rfl (A6 rfl (A6 rfl B9))) (A4 rfl (A4 rfl (A4 rfl B8))) (A3 A5 (A3 A5 (A3 A5 A8))))) (Sub.refl _)
        ·refine s0<|A0 (C2 rfl) rfl<|A0 (B4 rfl rfl rfl) rfl<|A0 (C2 rfl) rfl<|A0 (B4 rfl rfl rfl) rfl<|A0 (A06 rfl rfl) rfl<|qm rfl<|es (ra7 rfl rfl rfl rfl rfl rfl rfl)<|wi hs14 rfl (fun hc25 hs14=>?_) fun hc25 hs14=>?_
         ·refine r0<|qm rfl<|en (ra6 rfl rfl rfl rfl rfl rfl)<|s0<|qm rfl<|A0 (O5 (v:=(.b true)) rfl rfl rfl) rfl<|es (ra7 rfl rfl rfl rfl rfl rfl rfl)<|M7 rfl rfl<|s0<|qm rfl<|qm rfl<|qm rfl<|qm rfl<|qm rfl<|es (ra3 rfl rfl rfl)<|C8 ?_
          obtain rfl:=os hs14
          exact lx rfl (And.intro rfl (retq trivial (A6 rfl (A6 rfl (A6 rfl B9))) (A4 rfl (A4 rfl (A4 rfl B8))) (A3 A5 (A3 A5 (A3 A5 A8))))) (Sub.refl _)
         ·refine C7<|s0<|qm rfl<|A0 (N5 rfl rfl) rfl<|es (ra7 rfl rfl rfl rfl rfl rfl rfl)<|O7 rfl hc19<|C7<|r0<|A0 (G1 rfl rfl) rfl<|qm rfl<|en (ra4 rfl rfl rfl rfl) ?_
          cases hs14
          exact lnT () rfl (su4 rfl rfl rfl rfl)
      ·refine J4 ?_
       obtain rfl:=os hs14
       exact lx rfl px (su1 rfl)
     ·rcases o26 with vo26_0 | vo26_1
      ·rintro e s' H' - ⟨rfl,hret⟩
       cases h
       exact hret
      ·rintro e s' H' - ⟨rfl,rfl,rfl⟩
       refine C6<|C9<|s0<|oB h fun x27 hx27 h=>A0 (C2 rfl) rfl<|A0 (B4 rfl rfl rfl) rfl<|A0 (I5 (rows:=List.map cI [a0.Purse]) rfl rfl (E0 (fun _=>rfl) _)) rfl<|B5 (rs:=[.b x27]) rfl rfl (A2 rfl (A2 rfl (A2 rfl B3))) ((E5 hx27).frz)<|qm rfl<|es (ra2 rfl rfl)<|wi h rfl (fun hc28 h=>?_) fun hc28 h=>?_
       ·refine s0<|qm rfl<|qm rfl<|qm rfl<|es (ra3 rfl rfl rfl)<|C8 ?_
        obtain rfl:=os h
        exact retq trivial (A6 rfl (A6 rfl (A6 rfl B9))) (A4 rfl (A4 rfl (A4 rfl B8))) (A3 A5 (A3 A5 (A3 A5 A8)))
       ·refine s0<|A0 (C2 rfl) rfl<|A0 (B4 rfl rfl rfl) rfl<|A0 (G7 (f:=D2) rfl) rfl<|A0 (A06 rfl rfl) rfl<|qm rfl<|es (ra2 rfl rfl)<|wi h rfl (fun hc29 h=>?_) fun hc29 h=>?_
        ·refine s0<|qm rfl<|qm rfl<|qm rfl<|es (ra3 rfl rfl rfl)<|C8 ?_
         obtain rfl:=os h
         exact retq trivial (A6 rfl (A6 rfl (A6 rfl B9))) (A4 rfl (A4 rfl (A4 rfl B8))) (A3 A5 (A3 A5 (A3 A5 A8)))
        ·refine C7<|C6<|s0<|A0 (C2 rfl) rfl<|A0 (B4 rfl rfl rfl) rfl<|A0 (G7 (f:=D2) rfl) rfl<|qm rfl<|es (ra3 rfl rfl rfl)<|C9<|oB h fun o39 ho39 h=>wl (fun s30=>[(92,(.seq 2 (List.map D2 a0.Incomes))),(93,(.i (List.length a0.Incomes:Int))),(94,.i s30)]) (fun (q31:Unit) s30=>[(.cells (C0 a0))]) 1 (fun r e s' H'=>(match r with | (.inl v)=>e = .ret∧RetQ H [.tmp 2,.tmp 3,.tmp 4] [.i v.1,.i v.2.1,.i v.2.2] e s' H' | (.inr v)=>PX 6 [] (H++[(.cells (C0 a0))]) e s' H':Prop)) () ho39 rfl rfl (fun _ _=>rfl) (fun _=>rfl) rfl (fun s30=>(bdc M4 (bdc A5 (bdc A5 bdn)))) (fun q31 s30 ys30 hs30=>?_) ?_
         ·unfold A0i at hs30
          refine s0<|A0 (L4 rfl rfl) rfl<|es (ra4 rfl rfl rfl rfl)<|C6<|wi hs30 rfl (fun hc32 hs30=>?_) fun hc32 hs30=>?_
          ·refine C7<|C6<|C9<|sg 1 rfl<|oB hs30 fun x33 hx33 hs30=>qm rfl<|A0 (G6 (f:=D2) rfl rfl hx33) rfl<|A0 (H6 rfl rfl) rfl<|A0 H9 rfl<|qm rfl<|N0 (E6 (ds:=(D2 x33)) rfl rfl rfl rfl (E1 rfl) rfl) rfl<|es (ra5 rfl rfl rfl rfl rfl)<|s0<|oB hs30 fun x34 hx34 hs30=>oB hs30 fun x37 hx37 hs30=>A0 (C2 rfl) rfl<|A0 (B4 rfl rfl rfl) rfl<|A0 (I5 (rows:=List.map cI [x33.Day]) rfl rfl (E0 (fun _=>rfl) _)) rfl<|B5 (rs:=[.b x34]) rfl rfl (A2 rfl (A2 rfl (A2 rfl B3))) ((E5 hx34).frz)<|qm rfl<|gp 5 108 (.b x37) 103 rfl rfl (fun hg35=>?_) (fun hg35=>?_) ?_
           ·obtain rfl:=os (bt hx37 hg35)
            exact nF rfl hg35 rfl<|nF rfl hg35 rfl<|nF rfl hg35 rfl<|H8 (D9 rfl (by rw [hg35]; rfl)) rfl<|A0 (C4 rfl hg35 rfl) rfl<|ge 5 rfl rfl rfl
           ·refine oB (bf hx37 hg35) fun x36 hx36 hx37=>?_
            obtain rfl:=os hx37
            exact gF rfl hg35<|A0 (C2 rfl) rfl<|gF rfl hg35<|A0 (B4 rfl rfl rfl) rfl<|gF rfl hg35<|A0 (I5 (rows:=List.map cI [x33.Pence]) rfl rfl (E0 (fun _=>rfl) _)) rfl<|gF rfl hg35<|B5 (rs:=[.b x36]) rfl rfl (A2 rfl (A2 rfl (A2 rfl B3))) ((E5 hx36).frz)<|A0 (C3 rfl hg35 rfl) rfl<|ge 5 rfl rfl rfl
           refine es (ra5 rfl rfl rfl rfl rfl)<|wi hs30 rfl (fun hc38 hs30=>?_) fun hc38 hs30=>?_
           ·refine s0<|qm rfl<|qm rfl<|qm rfl<|qm rfl<|es (ra3 rfl rfl rfl)<|C8 ?_
            obtain rfl:=os hs30
            exact lx rfl (And.intro rfl (retq trivial (A6 rfl (A6 rfl (A6 rfl B9))) (A4 rfl (A4 rfl (A4 rfl B8))) (A3 A5 (A3 A5 (A3 A5 A8))))) (Sub.refl _)
           ·refine C7<|r0<|A0 (G1 rfl rfl) rfl<|qm rfl<|en (ra3 rfl rfl rfl) ?_
            cases hs30
            exact lnT () rfl (su3 rfl rfl rfl)
          ·refine J4 ?_
           obtain rfl:=os hs30
           exact lx rfl px (.nil _)
         ·rcases o39 with vo39_0 | vo39_1
          ·rintro e s' H' - ⟨rfl,hret⟩
           cases h
           exact hret
          ·rintro e s' H' - ⟨rfl,rfl,rfl⟩
           refine s0<|qm rfl<|qm rfl<|qm rfl<|es (ra3 rfl rfl rfl)<|C8 ?_
           obtain rfl:=os h
           exact retq trivial (A6 rfl (A6 rfl (A6 rfl B9))) (A4 rfl (A4 rfl (A4 rfl B8))) (A3 A5 (A3 A5 (A3 A5 A8)))
end Pw
end
