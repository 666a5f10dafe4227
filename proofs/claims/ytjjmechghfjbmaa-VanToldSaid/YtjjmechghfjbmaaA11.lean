/- Texts that the claim stands on, one behind another. -/
import Derived.Test.YtjjmechghfjbmaaA10
import Derived.Test.YtjjmechghfjbmaaChecked
import Derived.KernelRfl
set_option linter.unusedVariables false
set_option linter.unusedSimpArgs false
set_option linter.unnecessarySimpa false
section
set_option maxRecDepth 100000
set_option maxHeartbeats 0
namespace Go.Proofs.Ytjjmechghfjbmaa
open Go Am Go.Proofs
theorem m3:matchFunc Try.prog Try.f3 Cd.a3=true:= by kernel_rfl
theorem m4:matchFunc Try.prog Try.f4 Cd.a4=true:= by kernel_rfl
theorem m8:matchFunc Try.prog Try.f8 Cd.a8=true:= by kernel_rfl
theorem m10:matchFunc Try.prog Try.f10 Cd.a10=true:= by kernel_rfl
theorem m11:matchFunc Try.prog Try.f11 Cd.a11=true:= by kernel_rfl
theorem m16:matchFunc Try.prog Try.f16 Cd.a16=true:= by kernel_rfl
theorem m17:matchFunc Try.prog Try.f17 Cd.a17=true:= by kernel_rfl
theorem m18:matchFunc Try.prog Try.f18 Cd.a18=true:= by kernel_rfl
theorem m19:matchFunc Try.prog Try.f19 Cd.a19=true:= by kernel_rfl
theorem m20:matchFunc Try.prog Try.f20 Cd.a20=true:= by kernel_rfl
theorem m21:matchFunc Try.prog Try.f21 Cd.a21=true:= by kernel_rfl
theorem m22:matchFunc Try.prog Try.f22 Cd.a22=true:= by kernel_rfl
theorem m23:matchFunc Try.prog Try.f23 Cd.a23=true:= by kernel_rfl
theorem m24:matchFunc Try.prog Try.f24 Cd.a24=true:= by kernel_rfl
theorem m25:matchFunc Try.prog Try.f25 Cd.a25=true:= by kernel_rfl
theorem m26:matchFunc Try.prog Try.f26 Cd.a26=true:= by kernel_rfl
theorem m27:matchFunc Try.prog Try.f27 Cd.a27=true:= by kernel_rfl
theorem m28:matchFunc Try.prog Try.f28 Cd.a28=true:= by kernel_rfl
theorem m29:matchFunc Try.prog Try.f29 Cd.a29=true:= by kernel_rfl
theorem m31:matchFunc Try.prog Try.f31 Cd.a31=true:= by kernel_rfl
theorem m33:matchFunc Try.prog Try.f33 Cd.a33=true:= by kernel_rfl
theorem m35:matchFunc Try.prog Try.f35 Cd.a35=true:= by kernel_rfl
theorem m37:matchFunc Try.prog Try.f37 Cd.a37=true:= by kernel_rfl
theorem m38:matchFunc Try.prog Try.f38 Cd.a38=true:= by kernel_rfl
theorem m39:matchFunc Try.prog Try.f39 Cd.a39=true:= by kernel_rfl
theorem m40:matchFunc Try.prog Try.f40 Cd.a40=true:= by kernel_rfl
theorem m41:matchFunc Try.prog Try.f41 Cd.a41=true:= by kernel_rfl
theorem m42:matchFunc Try.prog Try.f42 Cd.a42=true:= by kernel_rfl
theorem m43:matchFunc Try.prog Try.f43 Cd.a43=true:= by kernel_rfl
theorem m44:matchFunc Try.prog Try.f44 Cd.a44=true:= by kernel_rfl
theorem m45:matchFunc Try.prog Try.f45 Cd.a45=true:= by kernel_rfl
theorem m46:matchFunc Try.prog Try.f46 Cd.a46=true:= by kernel_rfl
theorem m56:matchFunc Try.prog Try.f56 Cd.a56=true:= by kernel_rfl
theorem m57:matchFunc Try.prog Try.f57 Cd.a57=true:= by kernel_rfl
theorem m58:matchFunc Try.prog Try.f58 Cd.a58=true:= by kernel_rfl
theorem m59:matchFunc Try.prog Try.f59 Cd.a59=true:= by kernel_rfl
theorem m60:matchFunc Try.prog Try.f60 Cd.a60=true:= by kernel_rfl
theorem m61:matchFunc Try.prog Try.f61 Cd.a61=true:= by kernel_rfl
theorem m62:matchFunc Try.prog Try.f62 Cd.a62=true:= by kernel_rfl
theorem m63:matchFunc Try.prog Try.f63 Cd.a63=true:= by kernel_rfl
theorem m64:matchFunc Try.prog Try.f64 Cd.a64=true:= by kernel_rfl
theorem m65:matchFunc Try.prog Try.f65 Cd.a65=true:= by kernel_rfl
theorem m66:matchFunc Try.prog Try.f66 Cd.a66=true:= by kernel_rfl
theorem m67:matchFunc Try.prog Try.f67 Cd.a67=true:= by kernel_rfl
theorem m68:matchFunc Try.prog Try.f68 Cd.a68=true:= by kernel_rfl
theorem m69:matchFunc Try.prog Try.f69 Cd.a69=true:= by kernel_rfl
theorem m70:matchFunc Try.prog Try.f70 Cd.a70=true:= by kernel_rfl
theorem m71:matchFunc Try.prog Try.f71 Cd.a71=true:= by kernel_rfl
theorem m72:matchFunc Try.prog Try.f72 Cd.a72=true:= by kernel_rfl
theorem m73:matchFunc Try.prog Try.f73 Cd.a73=true:= by kernel_rfl
theorem m74:matchFunc Try.prog Try.f74 Cd.a74=true:= by kernel_rfl
theorem m75:matchFunc Try.prog Try.f75 Cd.a75=true:= by kernel_rfl
theorem m76:matchFunc Try.prog Try.f76 Cd.a76=true:= by kernel_rfl
theorem m77:matchFunc Try.prog Try.f77 Cd.a77=true:= by kernel_rfl
theorem m78:matchFunc Try.prog Try.f78 Cd.a78=true:= by kernel_rfl
theorem m80:matchFunc Try.prog Try.f80 Cd.a80=true:= by kernel_rfl
theorem m82:matchFunc Try.prog Try.f82 Cd.a82=true:= by kernel_rfl
theorem m83:matchFunc Try.prog Try.f83 Cd.a83=true:= by kernel_rfl
theorem m84:matchFunc Try.prog Try.f84 Cd.a84=true:= by kernel_rfl
theorem m86:matchFunc Try.prog Try.f86 Cd.a86=true:= by kernel_rfl
theorem m87:matchFunc Try.prog Try.f87 Cd.a87=true:= by kernel_rfl
theorem m88:matchFunc Try.prog Try.f88 Cd.a88=true:= by kernel_rfl
theorem m90:matchFunc Try.prog Try.f90 Cd.a90=true:= by kernel_rfl
theorem m91:matchFunc Try.prog Try.f91 Cd.a91=true:= by kernel_rfl
theorem m92:matchFunc Try.prog Try.f92 Cd.a92=true:= by kernel_rfl
theorem m93:matchFunc Try.prog Try.f93 Cd.a93=true:= by kernel_rfl
theorem m94:matchFunc Try.prog Try.f94 Cd.a94=true:= by kernel_rfl
theorem m95:matchFunc Try.prog Try.f95 Cd.a95=true:= by kernel_rfl
theorem m96:matchFunc Try.prog Try.f96 Cd.a96=true:= by kernel_rfl
theorem m97:matchFunc Try.prog Try.f97 Cd.a97=true:= by kernel_rfl
theorem m98:matchFunc Try.prog Try.f98 Cd.a98=true:= by kernel_rfl
theorem m99:matchFunc Try.prog Try.f99 Cd.a99=true:= by kernel_rfl
theorem m100:matchFunc Try.prog Try.f100 Cd.a100=true:= by kernel_rfl
theorem m101:matchFunc Try.prog Try.f101 Cd.a101=true:= by kernel_rfl
theorem m102:matchFunc Try.prog Try.f102 Cd.a102=true:= by kernel_rfl
theorem m103:matchFunc Try.prog Try.f103 Cd.a103=true:= by kernel_rfl
theorem m104:matchFunc Try.prog Try.f104 Cd.a104=true:= by kernel_rfl
theorem m105:matchFunc Try.prog Try.f105 Cd.a105=true:= by kernel_rfl
theorem m106:matchFunc Try.prog Try.f106 Cd.a106=true:= by kernel_rfl
theorem m107:matchFunc Try.prog Try.f107 Cd.a107=true:= by kernel_rfl
theorem m108:matchFunc Try.prog Try.f108 Cd.a108=true:= by kernel_rfl
theorem m109:matchFunc Try.prog Try.f109 Cd.a109=true:= by kernel_rfl
theorem m110:matchFunc Try.prog Try.f110 Cd.a110=true:= by kernel_rfl
theorem m111:matchFunc Try.prog Try.f111 Cd.a111=true:= by kernel_rfl
theorem m112:matchFunc Try.prog Try.f112 Cd.a112=true:= by kernel_rfl
theorem m113:matchFunc Try.prog Try.f113 Cd.a113=true:= by kernel_rfl
theorem m114:matchFunc Try.prog Try.f114 Cd.a114=true:= by kernel_rfl
theorem m115:matchFunc Try.prog Try.f115 Cd.a115=true:= by kernel_rfl
theorem m116:matchFunc Try.prog Try.f116 Cd.a116=true:= by kernel_rfl
theorem m117:matchFunc Try.prog Try.f117 Cd.a117=true:= by kernel_rfl
theorem m118:matchFunc Try.prog Try.f118 Cd.a118=true:= by kernel_rfl
theorem tabOk:TabOk Try.prog Cd.tab:= by
 intro i af h
 unfold Cd.tab at h
 split at h
 ·cases h; exact ⟨Try.f3,Try.func3,m3⟩
 ·cases h; exact ⟨Try.f4,Try.func4,m4⟩
 ·cases h; exact ⟨Try.f8,Try.func8,m8⟩
 ·cases h; exact ⟨Try.f10,Try.func10,m10⟩
 ·cases h; exact ⟨Try.f11,Try.func11,m11⟩
 ·cases h; exact ⟨Try.f16,Try.func16,m16⟩
 ·cases h; exact ⟨Try.f17,Try.func17,m17⟩
 ·cases h; exact ⟨Try.f18,Try.func18,m18⟩
 ·cases h; exact ⟨Try.f19,Try.func19,m19⟩
 ·cases h; exact ⟨Try.f20,Try.func20,m20⟩
 ·cases h; exact ⟨Try.f21,Try.func21,m21⟩
 ·cases h; exact ⟨Try.f22,Try.func22,m22⟩
 ·cases h; exact ⟨Try.f23,Try.func23,m23⟩
 ·cases h; exact ⟨Try.f24,Try.func24,m24⟩
 ·cases h; exact ⟨Try.f25,Try.func25,m25⟩
 ·cases h; exact ⟨Try.f26,Try.func26,m26⟩
 ·cases h; exact ⟨Try.f27,Try.func27,m27⟩
 ·cases h; exact ⟨Try.f28,Try.func28,m28⟩
 ·cases h; exact ⟨Try.f29,Try.func29,m29⟩
 ·cases h; exact ⟨Try.f31,Try.func31,m31⟩
 ·cases h; exact ⟨Try.f33,Try.func33,m33⟩
 ·cases h; exact ⟨Try.f35,Try.func35,m35⟩
 ·cases h; exact ⟨Try.f37,Try.func37,m37⟩
 ·cases h; exact ⟨Try.f38,Try.func38,m38⟩
 ·cases h; exact ⟨Try.f39,Try.func39,m39⟩
 ·cases h; exact ⟨Try.f40,Try.func40,m40⟩
 ·cases h; exact ⟨Try.f41,Try.func41,m41⟩
 ·cases h; exact ⟨Try.f42,Try.func42,m42⟩
 ·cases h; exact ⟨Try.f43,Try.func43,m43⟩
 ·cases h; exact ⟨Try.f44,Try.func44,m44⟩
 ·cases h; exact ⟨Try.f45,Try.func45,m45⟩
 ·cases h; exact ⟨Try.f46,Try.func46,m46⟩
 ·cases h; exact ⟨Try.f56,Try.func56,m56⟩
 ·cases h; exact ⟨Try.f57,Try.func57,m57⟩
 ·cases h; exact ⟨Try.f58,Try.func58,m58⟩
 ·cases h; exact ⟨Try.f59,Try.func59,m59⟩
 ·cases h; exact ⟨Try.f60,Try.func60,m60⟩
 ·cases h; exact ⟨Try.f61,Try.func61,m61⟩
 ·cases h; exact ⟨Try.f62,Try.func62,m62⟩
 ·cases h; exact ⟨Try.f63,Try.func63,m63⟩
 ·cases h; exact ⟨Try.f64,Try.func64,m64⟩
 ·cases h; exact ⟨Try.f65,Try.func65,m65⟩
 ·cases h; exact ⟨Try.f66,Try.func66,m66⟩
 ·cases h; exact ⟨Try.f67,Try.func67,m67⟩
 ·cases h; exact ⟨Try.f68,Try.func68,m68⟩
 ·cases h; exact ⟨Try.f69,Try.func69,m69⟩
 ·cases h; exact ⟨Try.f70,Try.func70,m70⟩
 ·cases h; exact ⟨Try.f71,Try.func71,m71⟩
 ·cases h; exact ⟨Try.f72,Try.func72,m72⟩
 ·cases h; exact ⟨Try.f73,Try.func73,m73⟩
 ·cases h; exact ⟨Try.f74,Try.func74,m74⟩
 ·cases h; exact ⟨Try.f75,Try.func75,m75⟩
 ·cases h; exact ⟨Try.f76,Try.func76,m76⟩
 ·cases h; exact ⟨Try.f77,Try.func77,m77⟩
 ·cases h; exact ⟨Try.f78,Try.func78,m78⟩
 ·cases h; exact ⟨Try.f80,Try.func80,m80⟩
 ·cases h; exact ⟨Try.f82,Try.func82,m82⟩
 ·cases h; exact ⟨Try.f83,Try.func83,m83⟩
 ·cases h; exact ⟨Try.f84,Try.func84,m84⟩
 ·cases h; exact ⟨Try.f86,Try.func86,m86⟩
 ·cases h; exact ⟨Try.f87,Try.func87,m87⟩
 ·cases h; exact ⟨Try.f88,Try.func88,m88⟩
 ·cases h; exact ⟨Try.f90,Try.func90,m90⟩
 ·cases h; exact ⟨Try.f91,Try.func91,m91⟩
 ·cases h; exact ⟨Try.f92,Try.func92,m92⟩
 ·cases h; exact ⟨Try.f93,Try.func93,m93⟩
 ·cases h; exact ⟨Try.f94,Try.func94,m94⟩
 ·cases h; exact ⟨Try.f95,Try.func95,m95⟩
 ·cases h; exact ⟨Try.f96,Try.func96,m96⟩
 ·cases h; exact ⟨Try.f97,Try.func97,m97⟩
 ·cases h; exact ⟨Try.f98,Try.func98,m98⟩
 ·cases h; exact ⟨Try.f99,Try.func99,m99⟩
 ·cases h; exact ⟨Try.f100,Try.func100,m100⟩
 ·cases h; exact ⟨Try.f101,Try.func101,m101⟩
 ·cases h; exact ⟨Try.f102,Try.func102,m102⟩
 ·cases h; exact ⟨Try.f103,Try.func103,m103⟩
 ·cases h; exact ⟨Try.f104,Try.func104,m104⟩
 ·cases h; exact ⟨Try.f105,Try.func105,m105⟩
 ·cases h; exact ⟨Try.f106,Try.func106,m106⟩
 ·cases h; exact ⟨Try.f107,Try.func107,m107⟩
 ·cases h; exact ⟨Try.f108,Try.func108,m108⟩
 ·cases h; exact ⟨Try.f109,Try.func109,m109⟩
 ·cases h; exact ⟨Try.f110,Try.func110,m110⟩
 ·cases h; exact ⟨Try.f111,Try.func111,m111⟩
 ·cases h; exact ⟨Try.f112,Try.func112,m112⟩
 ·cases h; exact ⟨Try.f113,Try.func113,m113⟩
 ·cases h; exact ⟨Try.f114,Try.func114,m114⟩
 ·cases h; exact ⟨Try.f115,Try.func115,m115⟩
 ·cases h; exact ⟨Try.f116,Try.func116,m116⟩
 ·cases h; exact ⟨Try.f117,Try.func117,m117⟩
 ·cases h; exact ⟨Try.f118,Try.func118,m118⟩
 ·cases h
end Go.Proofs.Ytjjmechghfjbmaa
end
section
set_option maxRecDepth 100000
set_option maxHeartbeats 0
namespace Vn
open Go Am Go.Proofs.Ytjjmechghfjbmaa.Cd
structure Span where
 mk ::
 (Lo:Int)
 (Hi:Int)
 deriving DecidableEq
def c_Span (x:Span):List AV:=[.i x.Lo,.i x.Hi]
structure VaVan where
 mk ::
 (Name:ByteArray)
 (Room:Int)
 (Leave:Int)
 (Legs:(List Span))
 deriving DecidableEq
def c_VaVan (x:VaVan):List AV:=[.s x.Name,.i x.Room,.i x.Leave,(.seq 2 (List.map c_Span x.Legs))]
structure VaCrate where
 mk ::
 (Name:ByteArray)
 (Size:Int)
 (Stop:Int)
 (By:Int)
 deriving DecidableEq
def c_VaCrate (x:VaCrate):List AV:=[.s x.Name,.i x.Size,.i x.Stop,.i x.By]
structure VaPair where
 mk ::
 (A:Int)
 (B:Int)
 deriving DecidableEq
def c_VaPair (x:VaPair):List AV:=[.i x.A,.i x.B]
structure VaTrain where
 mk ::
 (Vans:(List VaVan))
 (Stops:Int)
 (Handle:Int)
 (Crates:(List VaCrate))
 (Apart:(List VaPair))
 deriving DecidableEq
def c_VaTrain (x:VaTrain):List AV:=[(.seq 4 (List.map c_VaVan x.Vans)),.i x.Stops,.i x.Handle,(.seq 4 (List.map c_VaCrate x.Crates)),(.seq 2 (List.map c_VaPair x.Apart))]
structure law06_Asked where
 mk ::
 (Van:Int)
 (Stop:Int)
 (Minute:Int)
 (Crate:Int)
 deriving DecidableEq
structure van_train where
 mk ::
 (VaTrain:VaTrain)
 deriving DecidableEq
structure van_found where
 mk ::
 (sure_:Int)
 (twice_:Int)
 (lacks_:Int)
 deriving DecidableEq
structure law06_Past where
 mk ::
 (Plan:(List Int))
 (Roads:(List Int))
 deriving DecidableEq
def c_law06_Past (x:law06_Past):List AV:=[(.seq 1 (List.map cIu16 x.Plan)),(.seq 1 (List.map cIu16 x.Roads))]
structure law06_Easier where
 mk ::
 (Room:Int)
 (By:Int)
 (Handle:Int)
 (Legs:Int)
 (Pair:Int)
 deriving DecidableEq
def ref06_Handled_L1 (a0:VaTrain) (a1:(List Int)) (a2:Int) (a3:Int) (s1:(Int×Int)) (s9:(Bool×Int)):Option ((Bool×Int)⊕Bool) :=
 if (decide (s9.2 < s1.2))=true then
  (if s9.1=true then
  some true
  else
  (idx a1 s9.2).bind fun x13 =>
  (if (x13 == a2)=true then
   (idx a0.Crates s9.2).bind fun x15 =>
   some (x15.Stop == a3)
  else
   some false).bind fun x16 =>
  some x16).bind fun x17 =>
  some (.inl (x17,(w64 (s9.2+1))))
 else
  some (.inr s9.1)
def ref06_Handled_L2 (a0:VaTrain) (a1:(List Int)) (a2:Int) (a3:Int) (s1:(Int×Int)):Option ((Int×Int)⊕Int) :=
 if (decide (s1.2 < (List.length a1:Int)))=true then
  (idx a1 s1.2).bind fun x4 =>
  (if (x4 != a2)=true then
  some true
  else
  (idx a0.Crates s1.2).bind fun x6 =>
  some (decide (x6.Stop≤a3))).bind fun x7 =>
  if x7=true then
  some (.inl (s1.1,(w64 (s1.2+1))))
  else
  (loop (ref06_Handled_L1 a0 a1 a2 a3 s1) (false,0)).bind fun (o18:Bool) =>
  if o18=true then
   some (.inl ((w64 (s1.1+1)),(w64 (s1.2+1))))
  else
   some (.inl (s1.1,(w64 (s1.2+1))))
 else
  some (.inr s1.1)
def ref06_Handled (a0:VaTrain) (a1:(List Int)) (a2:Int) (a3:Int):Option Int :=
 (loop (ref06_Handled_L2 a0 a1 a2 a3) (0,0)).bind fun (o20:Int) =>
 some o20
theorem ok_ref06_Handled {c:Sc} {H:AHeap} {a0:VaTrain} {a1:(List Int)} {a2:Int} {a3:Int} {r:Int} (h:ref06_Handled a0 a1 a2 a3=some r) :
  CallE tab c H (.fn (.func 45) [] []) [(.agg (c_VaTrain a0)),(.seq 1 (List.map cI a1)),.i a2,.i a3] [.i r]:= by
 unfold ref06_Handled at h
 refine cE rfl rfl<|sg 0 rfl<|ow_q (o_box (cs:=c_VaTrain a0) rfl rfl rfl) rfl<|qm rfl<|es (ra4 rfl rfl rfl rfl)<|s0<|qm rfl<|es (ra5 rfl rfl rfl rfl rfl)<|w_seq<|s0<|qm rfl<|es (ra6 rfl rfl rfl rfl rfl rfl)<|w_block<|oB h fun o20 ho20 h=>wl (fun s1=>[(1,(.seq 1 (List.map cI a1))),(2,.i a2),(3,.i a3),(4,(.ptr (H.length+0) 0)),(9,.i s1.1),(10,.i s1.2)]) (fun (q2:Unit) s1=>[(.cells (c_VaTrain a0))]) 1 (fun r e s' H'=>PX 0 [(9,.i r)] (H++[(.cells (c_VaTrain a0))]) e s' H') () ho20 rfl rfl (fun _ _=>rfl) (fun _=>rfl) rfl (fun s1=>(bdc bd_seq (bdc bd_lit (bdc bd_lit (bdc (bd_ptr rfl) (bdc bd_lit (bdc bd_lit bdn))))))) (fun q2 s1 ys1 hs1=>?_) ?_
 ·unfold ref06_Handled_L2 at hs1
  refine w_seq<|s0<|qm rfl<|qm rfl<|ow_q (o_lenL (f:=cI) rfl) rfl<|ow_q (b_lss rfl rfl) rfl<|es (ra7 rfl rfl rfl rfl rfl rfl rfl)<|wi hs1 rfl (fun hc3 hs1=>?_) fun hc3 hs1=>?_
  ·refine w_skip<|w_seq<|w_block<|w_seq<|s0<|oB hs1 fun x4 hx4 hs1=>oB hs1 fun x7 hx7 hs1=>qm rfl<|qm rfl<|ow_q (o_idxS (f:=cI) rfl rfl hx4) rfl<|ow_q (o_loadC rfl rfl) rfl<|qm rfl<|ow_q (b_neq rfl rfl) rfl<|qm rfl<|gp 9 34 (.b x7) 25 rfl rfl (fun hg5=>?_) (fun hg5=>?_) ?_
   ·obtain rfl:=os (bt hx7 hg5)
    exact nF rfl hg5 rfl<|nF rfl hg5 rfl<|nF rfl hg5 rfl<|nF rfl hg5 rfl<|nF rfl hg5 rfl<|nF rfl hg5 rfl<|nF rfl hg5 rfl<|nF rfl hg5 rfl<|ow_q (o_pickT rfl hg5 rfl) rfl<|ge 9 rfl rfl rfl
   ·refine oB (bf hx7 hg5) fun x6 hx6 hx7=>?_
    obtain rfl:=os hx7
    exact gF rfl hg5<|ow_q (o_faP rfl) rfl<|gF rfl hg5<|ow_q (o_load rfl rfl rfl) rfl<|gF rfl hg5<|qm rfl<|gF rfl hg5<|ow_q (o_idxS (f:=c_VaCrate) rfl rfl hx6) rfl<|gF rfl hg5<|ow_q (o_faC (ds:=(List.drop 2 (c_VaCrate x6))) rfl rfl) rfl<|gF rfl hg5<|ow_q (o_loadC rfl rfl) rfl<|gF rfl hg5<|qm rfl<|gF rfl hg5<|ow_q (b_leq rfl rfl) rfl<|ow_q (o_pickF rfl hg5 rfl) rfl<|ge 9 rfl rfl rfl
   refine es (ra7 rfl rfl rfl rfl rfl rfl rfl)<|wi hs1 rfl (fun hc8 hs1=>?_) fun hc8 hs1=>?_
   ·refine w_exit<|r0<|qm rfl<|ow_q (b_add rfl rfl) rfl<|qm rfl<|en (ra6 rfl rfl rfl rfl rfl rfl) ?_
    cases hs1
    exact lnT () rfl (su6 rfl rfl rfl rfl rfl rfl)
   ·refine w_skip<|s0<|qm rfl<|es (ra7 rfl rfl rfl rfl rfl rfl rfl)<|w_seq<|s0<|qm rfl<|es (ra8 rfl rfl rfl rfl rfl rfl rfl rfl)<|w_block<|oB hs1 fun o18 ho18 hs1=>wl (fun s9=>[(1,(.seq 1 (List.map cI a1))),(2,.i a2),(3,.i a3),(4,(.ptr (H.length + 0) 0)),(9,.i s1.1),(10,.i s1.2),(11,.b s9.1),(12,.i s9.2)]) (fun (q10:Unit) s9=>[(.cells (c_VaTrain a0))]) 1 (fun r e s' H'=>PX 2 [(1,(.seq 1 (List.map cI a1))),(2,.i a2),(3,.i a3),(4,(.ptr (H.length + 0) 0)),(9,.i s1.1),(10,.i s1.2),(11,.b r)] (H++[(.cells (c_VaTrain a0))]) e s' H') () ho18 rfl rfl (fun _ _=>rfl) (fun _=>rfl) rfl (fun s9=>(bdc bd_seq (bdc bd_lit (bdc bd_lit (bdc (bd_ptr rfl) (bdc bd_lit (bdc bd_lit (bdc bd_lit (bdc bd_lit bdn))))))))) (fun q10 s9 ys9 hs9=>?_) ?_
    ·unfold ref06_Handled_L1 at hs9
     refine w_seq<|s0<|qm rfl<|qm rfl<|ow_q (b_lss rfl rfl) rfl<|es (ra9 rfl rfl rfl rfl rfl rfl rfl rfl rfl)<|wi hs9 rfl (fun hc11 hs9=>?_) fun hc11 hs9=>?_
     ·refine w_skip<|w_seq<|w_block<|r0<|oB hs9 fun x17 hx17 hs9=>qm rfl<|qm rfl<|gp 17 58 (.b x17) 41 rfl rfl (fun hg12=>?_) (fun hg12=>?_) ?_
      ·obtain rfl:=os (bt hx17 hg12)
       exact nF rfl hg12 rfl<|nF rfl hg12 rfl<|nF rfl hg12 rfl<|nF rfl hg12 rfl<|nF rfl hg12 rfl<|nF rfl hg12 rfl<|nF rfl hg12 rfl<|nX rfl rfl<|nX rfl rfl<|nX rfl rfl<|nX rfl rfl<|nX rfl rfl<|nX rfl rfl<|nX rfl rfl<|nX rfl rfl<|nF rfl hg12 rfl<|ow_q (o_pickT rfl hg12 rfl) rfl<|ge 17 rfl rfl rfl
      ·refine oB (bf hx17 hg12) fun x13 hx13 hx17=>oB hx17 fun x16 hx16 hx17=>?_
       obtain rfl:=os hx17
       refine gF rfl hg12<|qm rfl<|gF rfl hg12<|qm rfl<|gF rfl hg12<|ow_q (o_idxS (f:=cI) rfl rfl hx13) rfl<|gF rfl hg12<|ow_q (o_loadC rfl rfl) rfl<|gF rfl hg12<|qm rfl<|gF rfl hg12<|ow_q (b_eql rfl rfl) rfl<|gF rfl hg12<|qm rfl<|gq 9 57 (.b x16) 48 rfl rfl (fun hg14=>?_) (fun hg14=>?_) ?_
       ·refine oB (bt hx16 hg14) fun x15 hx15 hx16=>?_
        obtain rfl:=os hx16
        exact gT rfl hg14<|ow_q (o_faP rfl) rfl<|gT rfl hg14<|ow_q (o_load rfl rfl rfl) rfl<|gT rfl hg14<|qm rfl<|gT rfl hg14<|ow_q (o_idxS (f:=c_VaCrate) rfl rfl hx15) rfl<|gT rfl hg14<|ow_q (o_faC (ds:=(List.drop 2 (c_VaCrate x15))) rfl rfl) rfl<|gT rfl hg14<|ow_q (o_loadC rfl rfl) rfl<|gT rfl hg14<|qm rfl<|gT rfl hg14<|ow_q (b_eql rfl rfl) rfl<|gF rfl hg12<|ow_q (o_pickT rfl hg14 rfl) rfl<|ge 9 rfl rfl rfl
       ·obtain rfl:=os (bf hx16 hg14)
        exact nT rfl hg14 rfl<|nT rfl hg14 rfl<|nT rfl hg14 rfl<|nT rfl hg14 rfl<|nT rfl hg14 rfl<|nT rfl hg14 rfl<|nT rfl hg14 rfl<|nT rfl hg14 rfl<|gF rfl hg12<|ow_q (o_pickF rfl hg14 rfl) rfl<|ge 9 rfl rfl rfl
       exact ow_q (o_pickF rfl hg12 rfl) rfl<|ge 9 rfl rfl rfl
      refine qm rfl<|en (ra8 rfl rfl rfl rfl rfl rfl rfl rfl)<|r0<|qm rfl<|ow_q (b_add rfl rfl) rfl<|qm rfl<|en (ra8 rfl rfl rfl rfl rfl rfl rfl rfl) ?_
      cases hs9
      exact lnT () rfl (su8 rfl rfl rfl rfl rfl rfl rfl rfl)
     ·refine w_exit ?_
      obtain rfl:=os hs9
      exact lx rfl px (su7 rfl rfl rfl rfl rfl rfl rfl)
    ·rintro e s' H' - ⟨rfl,rfl,rfl⟩
     refine s0<|qm rfl<|es (ra7 rfl rfl rfl rfl rfl rfl rfl)<|wi hs1 rfl (fun hc19 hs1=>?_) fun hc19 hs1=>?_
     ·refine r0<|qm rfl<|ow_q (b_add rfl rfl) rfl<|qm rfl<|en (ra6 rfl rfl rfl rfl rfl rfl)<|r0<|qm rfl<|ow_q (b_add rfl rfl) rfl<|qm rfl<|en (ra6 rfl rfl rfl rfl rfl rfl) ?_
      cases hs1
      exact lnT () rfl (su6 rfl rfl rfl rfl rfl rfl)
     ·refine w_skip<|r0<|qm rfl<|ow_q (b_add rfl rfl) rfl<|qm rfl<|en (ra6 rfl rfl rfl rfl rfl rfl) ?_
      cases hs1
      exact lnT () rfl (su6 rfl rfl rfl rfl rfl rfl)
  ·refine w_exit ?_
   obtain rfl:=os hs1
   exact lx rfl px (su1 rfl)
 ·rintro e s' H' - ⟨rfl,rfl,rfl⟩
  refine s0<|qm rfl<|qm rfl<|es (ra1 rfl)<|w_ret ?_
  obtain rfl:=os h
  exact retq trivial (rs_tmp rfl rs_nil) (ov_cons rfl ov_nil) (bdL_cons bd_lit bdL_nil)
def ref01_Index_L1 (a0:(List ByteArray)) (a1:ByteArray) (s1:Int):Option (Int⊕(Int⊕Unit)) :=
 if (decide (s1 < (List.length a0:Int)))=true then
  (idx a0 s1).bind fun x4 =>
  if (eqS x4 a1)=true then
  some (.inr (.inl s1))
  else
  some (.inl (w64 (s1+1)))
 else
  some (.inr (.inr ()))
def ref01_Index (a0:(List ByteArray)) (a1:ByteArray):Option Int :=
 (loop (ref01_Index_L1 a0 a1) 0).bind fun (o6:(Int⊕Unit)) =>
 match o6 with
 | (.inl vo6_0) =>
  some vo6_0
 | (.inr vo6_1) =>
  some (-1)
theorem ok_ref01_Index {c:Sc} {H:AHeap} {a0:(List ByteArray)} {a1:ByteArray} {r:Int} (h:ref01_Index a0 a1=some r) :
  CallE tab c H (.fn (.func 113) [] []) [(.seq 1 (List.map cS a0)),.s a1] [.i r]:= by
 unfold ref01_Index at h
 refine cE rfl rfl<|s0<|qm rfl<|es (ra2 rfl rfl)<|w_seq<|s0<|qm rfl<|es (ra3 rfl rfl rfl)<|w_block<|oB h fun o6 ho6 h=>wl (fun s1=>[(0,(.seq 1 (List.map cS a0))),(1,.s a1),(5,.i s1)]) (fun (q2:Unit) s1=>[]) 0 (fun r e s' H'=>(match r with | (.inl v)=>e = .ret∧RetQ H [.tmp 4] [.i v] e s' H' | (.inr v)=>PX 0 [] (H++[]) e s' H':Prop)) () ho6 rfl rfl (fun _ _=>rfl) (fun _=>rfl) rfl (fun s1=>(bdc bd_seq (bdc bd_lit (bdc bd_lit bdn)))) (fun q2 s1 ys1 hs1=>?_) ?_
 ·unfold ref01_Index_L1 at hs1
  refine w_seq<|s0<|qm rfl<|qm rfl<|ow_q (o_lenL (f:=cS) rfl) rfl<|ow_q (b_lss rfl rfl) rfl<|es (ra4 rfl rfl rfl rfl)<|wi hs1 rfl (fun hc3 hs1=>?_) fun hc3 hs1=>?_
  ·refine w_skip<|w_seq<|w_block<|s0<|oB hs1 fun x4 hx4 hs1=>qm rfl<|qm rfl<|ow_q (o_idxS (f:=cS) rfl rfl hx4) rfl<|ow_q (o_loadC rfl rfl) rfl<|qm rfl<|ow_q (b_seq rfl rfl) rfl<|es (ra4 rfl rfl rfl rfl)<|wi hs1 rfl (fun hc5 hs1=>?_) fun hc5 hs1=>?_
   ·refine s0<|qm rfl<|qm rfl<|es (ra1 rfl)<|w_ret ?_
    obtain rfl:=os hs1
    exact lx rfl (And.intro rfl (retq trivial (rs_tmp rfl rs_nil) (ov_cons rfl ov_nil) (bdL_cons bd_lit bdL_nil))) (Sub.refl _)
   ·refine w_skip<|r0<|qm rfl<|ow_q (b_add rfl rfl) rfl<|qm rfl<|en (ra3 rfl rfl rfl) ?_
    cases hs1
    exact lnT () rfl (su3 rfl rfl rfl)
  ·refine w_exit ?_
   obtain rfl:=os hs1
   exact lx rfl px (.nil _)
 ·rcases o6 with vo6_0 | vo6_1
  ·rintro e s' H' - ⟨rfl,hret⟩
   cases h
   exact hret
  ·rintro e s' H' - ⟨rfl,rfl,rfl⟩
   refine s0<|qm rfl<|es (ra1 rfl)<|w_ret ?_
   obtain rfl:=os h
   exact retq trivial (rs_tmp rfl rs_nil) (ov_cons rfl ov_nil) (bdL_cons bd_lit bdL_nil)
def ref01_within (a0:Int) (a1:Int) (a2:Int):Option Bool :=
 some ((decide (a0 ≥ a1)) && (decide (a0≤a2)))
theorem ok_ref01_within {c:Sc} {H:AHeap} {a0:Int} {a1:Int} {a2:Int} {r:Bool} (h:ref01_within a0 a1 a2=some r) :
  CallE tab c H (.fn (.func 88) [] []) [.i a0,.i a1,.i a2] [.b r]:= by
 unfold ref01_within at h
 refine cE rfl rfl<|s0<|qm rfl<|es (ra3 rfl rfl rfl)<|s0<|qm rfl<|qm rfl<|ow_q (b_geq rfl rfl) rfl<|qm rfl<|gp 4 14 (.b ((decide (a0 ≥ a1)) && (decide (a0≤a2)))) 10 rfl rfl (fun hg1=>?_) (fun hg1=>?_) ?_
 ·exact gT rfl hg1<|qm rfl<|gT rfl hg1<|qm rfl<|gT rfl hg1<|ow_q (b_leq rfl rfl) rfl<|ow_q (o_pickT rfl hg1 rfl) rfl<|ge 4 (by rw [hg1]; rfl) rfl rfl
 ·exact nT rfl hg1 rfl<|nT rfl hg1 rfl<|nT rfl hg1 rfl<|ow_q (o_pickF rfl hg1 rfl) rfl<|ge 4 (by rw [hg1]; rfl) rfl rfl
 refine qm rfl<|es (ra1 rfl)<|w_ret ?_
 obtain rfl:=os h
 exact retq trivial (rs_tmp rfl rs_nil) (ov_cons rfl ov_nil) (bdL_cons bd_lit bdL_nil)
def ref01_Name_L1 (a0:ByteArray) (s3:Int):Option (Int⊕(Bool⊕Unit)) :=
 if (decide (s3 < (ByteArray.size a0:Int)))=true then
  (strAt a0 s3).bind fun x6 =>
  (ref01_within (w64 x6) 97 122).bind fun x7 =>
  (strAt a0 s3).bind fun x8 =>
  (ref01_within (w64 x8) 48 57).bind fun x9 =>
  (if x9=true then
  some true
  else
  (strAt a0 s3).bind fun x11 =>
  some (x11 == 46)).bind fun x12 =>
  if ((!x7) && ((s3 == 0) || (!x12)))=true then
  some (.inr (.inl false))
  else
  some (.inl (w64 (s3+1)))
 else
  some (.inr (.inr ()))
def ref01_Name (a0:ByteArray):Option Bool :=
 if (((ByteArray.size a0:Int) == 0) || (decide ((ByteArray.size a0:Int) > 16)))=true then
  some false
 else
  (loop (ref01_Name_L1 a0) 0).bind fun (o16:(Bool⊕Unit)) =>
  match o16 with
  | (.inl vo16_0) =>
  some vo16_0
  | (.inr vo16_1) =>
  some true
theorem ok_ref01_Name {c:Sc} {H:AHeap} {a0:ByteArray} {r:Bool} (h:ref01_Name a0=some r) :
  CallE tab c H (.fn (.func 112) [] []) [.s a0] [.b r]:= by
 unfold ref01_Name at h
 refine cE rfl rfl<|s0<|qm rfl<|es (ra1 rfl)<|w_seq<|s0<|qm rfl<|ow_q (o_lenS rfl) rfl<|ow_q (b_eql rfl rfl) rfl<|qm rfl<|gp 4 13 (.b (((ByteArray.size a0:Int) == 0) || (decide ((ByteArray.size a0:Int) > 16)))) 9 rfl rfl (fun hg1=>?_) (fun hg1=>?_) ?_
 ·exact nF rfl hg1 rfl<|nF rfl hg1 rfl<|nF rfl hg1 rfl<|ow_q (o_pickT rfl hg1 rfl) rfl<|ge 4 (by rw [hg1]; rfl) rfl rfl
 ·exact gF rfl hg1<|qm rfl<|gF rfl hg1<|ow_q (o_lenS rfl) rfl<|gF rfl hg1<|ow_q (b_gtr rfl rfl) rfl<|ow_q (o_pickF rfl hg1 rfl) rfl<|ge 4 (by rw [hg1]; rfl) rfl rfl
 refine es (ra2 rfl rfl)<|wi h rfl (fun hc2 h=>?_) fun hc2 h=>?_
 ·refine s0<|qm rfl<|es (ra1 rfl)<|w_ret ?_
  obtain rfl:=os h
  exact retq trivial (rs_tmp rfl rs_nil) (ov_cons rfl ov_nil) (bdL_cons bd_lit bdL_nil)
 ·refine w_skip<|w_seq<|s0<|qm rfl<|es (ra2 rfl rfl)<|w_block<|oB h fun o16 ho16 h=>wl (fun s3=>[(0,.s a0),(3,.i s3)]) (fun (q4:Unit) s3=>[]) 0 (fun r e s' H'=>(match r with | (.inl v)=>e = .ret∧RetQ H [.tmp 2] [.b v] e s' H' | (.inr v)=>PX 0 [] (H++[]) e s' H':Prop)) () ho16 rfl rfl (fun _ _=>rfl) (fun _=>rfl) rfl (fun s3=>(bdc bd_lit (bdc bd_lit bdn))) (fun q4 s3 ys3 hs3=>?_) ?_
  ·unfold ref01_Name_L1 at hs3
   refine w_seq<|s0<|qm rfl<|qm rfl<|ow_q (o_lenS rfl) rfl<|ow_q (b_lss rfl rfl) rfl<|es (ra3 rfl rfl rfl)<|wi hs3 rfl (fun hc5 hs3=>?_) fun hc5 hs3=>?_
   ·refine w_skip<|w_seq<|w_block<|s0<|oB hs3 fun x6 hx6 hs3=>oB hs3 fun x7 hx7 hs3=>qm rfl<|qm rfl<|ow_q (o_idxStr rfl rfl hx6) rfl<|ow_q (o_conv rfl) rfl<|ow_call (rs:=[.b x7]) rfl rfl (fa_cons rfl (fa_cons rfl (fa_cons rfl fa_nil))) ((ok_ref01_within hx7).frz)<|qm rfl<|es (ra3 rfl rfl rfl)<|s0<|oB hs3 fun x8 hx8 hs3=>oB hs3 fun x9 hx9 hs3=>oB hs3 fun x12 hx12 hs3=>qm rfl<|qm rfl<|ow_q (o_idxStr rfl rfl hx8) rfl<|ow_q (o_conv rfl) rfl<|ow_call (rs:=[.b x9]) rfl rfl (fa_cons rfl (fa_cons rfl (fa_cons rfl fa_nil))) ((ok_ref01_within hx9).frz)<|qm rfl<|gp 5 35 (.b x12) 30 rfl rfl (fun hg10=>?_) (fun hg10=>?_) ?_
    ·obtain rfl:=os (bt hx12 hg10)
     exact nF rfl hg10 rfl<|nF rfl hg10 rfl<|nF rfl hg10 rfl<|nF rfl hg10 rfl<|ow_q (o_pickT rfl hg10 rfl) rfl<|ge 5 rfl rfl rfl
    ·refine oB (bf hx12 hg10) fun x11 hx11 hx12=>?_
     obtain rfl:=os hx12
     exact gF rfl hg10<|qm rfl<|gF rfl hg10<|qm rfl<|gF rfl hg10<|ow_q (o_idxStr rfl rfl hx11) rfl<|gF rfl hg10<|ow_q (b_eql rfl rfl) rfl<|ow_q (o_pickF rfl hg10 rfl) rfl<|ge 5 rfl rfl rfl
    refine qm rfl<|es (ra4 rfl rfl rfl rfl)<|s0<|qm rfl<|ow_q (u_not rfl) rfl<|qm rfl<|gp 7 45 (.b ((!x7) && ((s3 == 0) || (!x12)))) 38 rfl rfl (fun hg13=>?_) (fun hg13=>?_) ?_
    ·refine gT rfl hg13<|qm rfl<|gT rfl hg13<|ow_q (b_eql rfl rfl) rfl<|gT rfl hg13<|qm rfl<|gq 3 44 (.b ((s3 == 0) || (!x12))) 41 rfl rfl (fun hg14=>?_) (fun hg14=>?_) ?_
     ·exact nF rfl hg14 rfl<|nF rfl hg14 rfl<|gT rfl hg13<|ow_q (o_pickT rfl hg14 rfl) rfl<|ge 3 (by rw [hg14]; rfl) rfl rfl
     ·exact gF rfl hg14<|qm rfl<|gF rfl hg14<|ow_q (u_not rfl) rfl<|gT rfl hg13<|ow_q (o_pickF rfl hg14 rfl) rfl<|ge 3 (by rw [hg14]; rfl) rfl rfl
     exact ow_q (o_pickT rfl hg13 rfl) rfl<|ge 5 (by rw [hg13]; rfl) rfl rfl
    ·exact nT rfl hg13 rfl<|nT rfl hg13 rfl<|nT rfl hg13 rfl<|nX rfl rfl<|nX rfl rfl<|nT rfl hg13 rfl<|ow_q (o_pickF rfl hg13 rfl) rfl<|ge 7 (by rw [hg13]; rfl) rfl rfl
    refine es (ra3 rfl rfl rfl)<|wi hs3 rfl (fun hc15 hs3=>?_) fun hc15 hs3=>?_
    ·refine s0<|qm rfl<|es (ra1 rfl)<|w_ret ?_
     obtain rfl:=os hs3
     exact lx rfl (And.intro rfl (retq trivial (rs_tmp rfl rs_nil) (ov_cons rfl ov_nil) (bdL_cons bd_lit bdL_nil))) (Sub.refl _)
    ·refine w_skip<|r0<|qm rfl<|ow_q (b_add rfl rfl) rfl<|qm rfl<|en (ra2 rfl rfl) ?_
     cases hs3
     exact lnT () rfl (su2 rfl rfl)
   ·refine w_exit ?_
    obtain rfl:=os hs3
    exact lx rfl px (.nil _)
  ·rcases o16 with vo16_0 | vo16_1
   ·rintro e s' H' - ⟨rfl,hret⟩
    cases h
    exact hret
   ·rintro e s' H' - ⟨rfl,rfl,rfl⟩
    refine s0<|qm rfl<|es (ra1 rfl)<|w_ret ?_
    obtain rfl:=os h
    exact retq trivial (rs_tmp rfl rs_nil) (ov_cons rfl ov_nil) (bdL_cons bd_lit bdL_nil)
def ref01_New (a0:ByteArray) (a1:(List ByteArray)):Option Int :=
 (ref01_Name a0).bind fun x1 =>
 if (!x1)=true then
  some 6
 else
  (ref01_Index a1 a0).bind fun x3 =>
  if (decide (x3 ≥ 0))=true then
  some 5
  else
  some 0
theorem ok_ref01_New {c:Sc} {H:AHeap} {a0:ByteArray} {a1:(List ByteArray)} {r:Int} (h:ref01_New a0 a1=some r) :
  CallE tab c H (.fn (.func 96) [] []) [.s a0,(.seq 1 (List.map cS a1))] [.i r]:= by
 unfold ref01_New at h
 refine cE rfl rfl<|s0<|qm rfl<|es (ra2 rfl rfl)<|w_seq<|s0<|oB h fun x1 hx1 h=>qm rfl<|ow_call (rs:=[.b x1]) rfl rfl (fa_cons rfl fa_nil) ((ok_ref01_Name hx1).frz)<|ow_q (u_not rfl) rfl<|es (ra3 rfl rfl rfl)<|wi h rfl (fun hc2 h=>?_) fun hc2 h=>?_
 ·refine s0<|qm rfl<|es (ra1 rfl)<|w_ret ?_
  obtain rfl:=os h
  exact retq trivial (rs_tmp rfl rs_nil) (ov_cons rfl ov_nil) (bdL_cons bd_lit bdL_nil)
 ·refine w_skip<|w_seq<|s0<|oB h fun x3 hx3 h=>qm rfl<|qm rfl<|ow_call (rs:=[.i x3]) rfl rfl (fa_cons rfl (fa_cons rfl fa_nil)) ((ok_ref01_Index hx3).frz)<|ow_q (b_geq rfl rfl) rfl<|es (ra1 rfl)<|wi h rfl (fun hc4 h=>?_) fun hc4 h=>?_
  ·refine s0<|qm rfl<|es (ra1 rfl)<|w_ret ?_
   obtain rfl:=os h
   exact retq trivial (rs_tmp rfl rs_nil) (ov_cons rfl ov_nil) (bdL_cons bd_lit bdL_nil)
  ·refine w_skip<|s0<|qm rfl<|es (ra1 rfl)<|w_ret ?_
   obtain rfl:=os h
   exact retq trivial (rs_tmp rfl rs_nil) (ov_cons rfl ov_nil) (bdL_cons bd_lit bdL_nil)
def ref06_in (a0:Int) (a1:Int) (a2:Int):Option Bool :=
 some ((decide (a0 ≥ a1)) && (decide (a0≤a2)))
theorem ok_ref06_in {c:Sc} {H:AHeap} {a0:Int} {a1:Int} {a2:Int} {r:Bool} (h:ref06_in a0 a1 a2=some r) :
  CallE tab c H (.fn (.func 60) [] []) [.i a0,.i a1,.i a2] [.b r]:= by
 unfold ref06_in at h
 refine cE rfl rfl<|s0<|qm rfl<|es (ra3 rfl rfl rfl)<|s0<|qm rfl<|qm rfl<|ow_q (b_geq rfl rfl) rfl<|qm rfl<|gp 4 14 (.b ((decide (a0 ≥ a1)) && (decide (a0≤a2)))) 10 rfl rfl (fun hg1=>?_) (fun hg1=>?_) ?_
 ·exact gT rfl hg1<|qm rfl<|gT rfl hg1<|qm rfl<|gT rfl hg1<|ow_q (b_leq rfl rfl) rfl<|ow_q (o_pickT rfl hg1 rfl) rfl<|ge 4 (by rw [hg1]; rfl) rfl rfl
 ·exact nT rfl hg1 rfl<|nT rfl hg1 rfl<|nT rfl hg1 rfl<|ow_q (o_pickF rfl hg1 rfl) rfl<|ge 4 (by rw [hg1]; rfl) rfl rfl
 refine qm rfl<|es (ra1 rfl)<|w_ret ?_
 obtain rfl:=os h
 exact retq trivial (rs_tmp rfl rs_nil) (ov_cons rfl ov_nil) (bdL_cons bd_lit bdL_nil)
def ref06_crates_L1 (a0:VaTrain) (s2:(Int×(List ByteArray))):Option ((Int×(List ByteArray))⊕((Int×Int)⊕(List ByteArray))) :=
 if (decide (s2.1 < (List.length a0.Crates:Int)))=true then
  (idx a0.Crates s2.1).bind fun x5 =>
  (ref01_New x5.Name s2.2).bind fun x6 =>
  (app 16 s2.2 [x5.Name]).bind fun x7 =>
  (if (x6 == 0)=true then
  (ref06_in x5.Size 1 9).bind fun x9 =>
  (if (!x9)=true then
   some true
  else
   (ref06_in x5.Stop 0 (w64 (a0.Stops - 1))).bind fun x11 =>
   some (!x11)).bind fun x12 =>
  (if x12=true then
   some true
  else
   (ref06_in x5.By 0 5000).bind fun x14 =>
   some (!x14)).bind fun x15 =>
  some x15
  else
  some false).bind fun x16 =>
  if x16=true then
  some (.inr (.inl (s2.1,7)))
  else
  if (x6 != 0)=true then
   some (.inr (.inl (s2.1,x6)))
  else
   some (.inl ((w64 (s2.1+1)),x7))
 else
  some (.inr (.inr s2.2))
def ref06_crates (a0:VaTrain):Option (Int×Int) :=
 if (decide ((List.length a0.Crates:Int) > 6))=true then
  some (0,3)
 else
  (loop (ref06_crates_L1 a0) (0,([]:List ByteArray))).bind fun (o19:((Int×Int)⊕(List ByteArray))) =>
  match o19 with
  | (.inl vo19_0) =>
  some vo19_0
  | (.inr vo19_1) =>
  some (0,0)
theorem ok_ref06_crates {c:Sc} {H:AHeap} {a0:VaTrain} {r:(Int×Int)} (h:ref06_crates a0=some r) :
  CallE tab c H (.fn (.func 62) [] []) [(.agg (c_VaTrain a0))] [.i r.1,.i r.2]:= by
 unfold ref06_crates at h
 refine cE rfl rfl<|sg 0 rfl<|ow_q (o_box (cs:=c_VaTrain a0) rfl rfl rfl) rfl<|qm rfl<|qm rfl<|es (ra1 rfl)<|w_seq<|s0<|ow_q (o_faP rfl) rfl<|ow_q (o_load rfl rfl rfl) rfl<|ow_q (o_lenL (f:=c_VaCrate) rfl) rfl<|ow_q (b_gtr rfl rfl) rfl<|es (ra2 rfl rfl)<|wi h rfl (fun hc1 h=>?_) fun hc1 h=>?_
 ·refine s0<|qm rfl<|qm rfl<|es (ra2 rfl rfl)<|w_ret ?_
  obtain rfl:=os h
  exact retq trivial (rs_tmp rfl (rs_tmp rfl rs_nil)) (ov_cons rfl (ov_cons rfl ov_nil)) (bdL_cons bd_lit (bdL_cons bd_lit bdL_nil))
 ·refine w_skip<|sg 1 rfl<|ow_q o_nil rfl<|es (ra2 rfl rfl)<|w_seq<|s0<|qm rfl<|es (ra3 rfl rfl rfl)<|w_block<|oB h fun o19 ho19 h=>wl (fun s2=>[(1,(.ptr (H.length + 0) 0)),(4,(.asl (H.length + 1) (List.length s2.2))),(5,.i s2.1)]) (fun (q3:Bool) s2=>[(.cells (c_VaTrain a0)),(.arr 1 q3 (List.map cS s2.2))]) 2 (fun r e s' H'=>(match r with | (.inl v)=>e = .ret∧RetQ H [.tmp 2,.tmp 3] [.i v.1,.i v.2] e s' H' | (.inr v)=>e = (.exit 0)∧s' = []∧∃ (q0q:Bool),H' = (H++[(.cells (c_VaTrain a0)),(.arr 1 q0q (List.map cS v))]):Prop)) false ho19 rfl rfl (fun _ _=>rfl) (fun _=>rfl) rfl (fun s2=>(bdc (bd_ptr rfl) (bdc (bd_asl rfl) (bdc bd_lit bdn)))) (fun q3 s2 ys2 hs2=>?_) ?_
  ·unfold ref06_crates_L1 at hs2
   refine w_seq<|s0<|qm rfl<|ow_q (o_faP rfl) rfl<|ow_q (o_load rfl rfl rfl) rfl<|ow_q (o_lenL (f:=c_VaCrate) rfl) rfl<|ow_q (b_lss rfl rfl) rfl<|es (ra4 rfl rfl rfl rfl)<|wi hs2 rfl (fun hc4 hs2=>?_) fun hc4 hs2=>?_
   ·refine w_skip<|w_seq<|w_block<|sg 2 rfl<|oB hs2 fun x5 hx5 hs2=>ow_q (o_faP rfl) rfl<|ow_q (o_load rfl rfl rfl) rfl<|qm rfl<|ow_q (o_idxS (f:=c_VaCrate) rfl rfl hx5) rfl<|ow_q (o_loadCW rfl rfl) rfl<|ow_q o_alloc rfl<|ow_r (o_store (ds:=(c_VaCrate x5)) rfl rfl rfl rfl (okL_plain rfl) rfl) rfl<|es (ra4 rfl rfl rfl rfl)<|s0<|oB hs2 fun x6 hx6 hs2=>ow_q (o_faP rfl) rfl<|ow_q (o_load rfl rfl rfl) rfl<|qm rfl<|ow_call (rs:=[.i x6]) rfl rfl (fa_cons rfl (fa_cons (fa_own rfl (List.length_map _)) fa_nil)) ((ok_ref01_New hx6).frz)<|qm rfl<|es (ra5 rfl rfl rfl rfl rfl)<|s0<|oB hs2 fun x7 hx7 hs2=>qm rfl<|ow_q (o_faP rfl) rfl<|ow_q (o_load rfl rfl rfl) rfl<|ow_q (o_lits (rows:=List.map cS [x5.Name]) rfl rfl (frzR_map (fun _=>rfl) _)) rfl<|ow_w (o_appO (f:=cS) rfl rfl rfl rfl rd_seq (fun _=>rfl) hx7) rfl<|qm rfl<|es (ra5 rfl rfl rfl rfl rfl)<|w_seq<|s0<|oB hs2 fun x16 hx16 hs2=>qm rfl<|ow_q (b_eql rfl rfl) rfl<|qm rfl<|gp 20 55 (.b x16) 35 rfl rfl (fun hg8=>?_) (fun hg8=>?_) ?_
    ·refine oB (bt hx16 hg8) fun x9 hx9 hx16=>oB hx16 fun x12 hx12 hx16=>oB hx16 fun x15 hx15 hx16=>?_
     obtain rfl:=os hx16
     refine gT rfl hg8<|ow_q (o_faP rfl) rfl<|gT rfl hg8<|ow_q (o_load rfl rfl rfl) rfl<|gT rfl hg8<|ow_call (rs:=[.b x9]) rfl rfl (fa_cons rfl (fa_cons rfl (fa_cons rfl fa_nil))) ((ok_ref06_in hx9).frz)<|gT rfl hg8<|ow_q (u_not rfl) rfl<|gT rfl hg8<|qm rfl<|gq 8 48 (.b x12) 40 rfl rfl (fun hg10=>?_) (fun hg10=>?_) ?_
     ·obtain rfl:=os (bt hx12 hg10)
      exact nF rfl hg10 rfl<|nF rfl hg10 rfl<|nF rfl hg10 rfl<|nF rfl hg10 rfl<|nF rfl hg10 rfl<|ow_noW (wanted_no rfl (by rw [hg10]; rfl)) rfl<|nF rfl hg10 rfl<|gT rfl hg8<|ow_q (o_pickT rfl hg10 rfl) rfl<|ge 8 rfl rfl rfl
     ·refine oB (bf hx12 hg10) fun x11 hx11 hx12=>?_
      obtain rfl:=os hx12
      exact gF rfl hg10<|ow_q (o_faP rfl) rfl<|gF rfl hg10<|ow_q (o_load rfl rfl rfl) rfl<|gF rfl hg10<|ow_q (o_faP rfl) rfl<|gF rfl hg10<|ow_q (o_load rfl rfl rfl) rfl<|gF rfl hg10<|ow_q (b_sub rfl rfl) rfl<|gF rfl hg10<|ow_call (rs:=[.b x11]) rfl rfl (fa_cons rfl (fa_cons rfl (fa_cons rfl fa_nil))) ((ok_ref06_in hx11).frz)<|gF rfl hg10<|ow_q (u_not rfl) rfl<|gT rfl hg8<|ow_q (o_pickF rfl hg10 rfl) rfl<|ge 8 rfl rfl rfl
     refine gT rfl hg8<|qm rfl<|gq 5 54 (.b x15) 49 rfl rfl (fun hg13=>?_) (fun hg13=>?_) ?_
     ·obtain rfl:=os (bt hx15 hg13)
      exact nF rfl hg13 rfl<|nF rfl hg13 rfl<|ow_noW (wanted_no rfl (by rw [hg13]; rfl)) rfl<|nF rfl hg13 rfl<|gT rfl hg8<|ow_q (o_pickT rfl hg13 rfl) rfl<|ge 5 rfl rfl rfl
     ·refine oB (bf hx15 hg13) fun x14 hx14 hx15=>?_
      obtain rfl:=os hx15
      exact gF rfl hg13<|ow_q (o_faP rfl) rfl<|gF rfl hg13<|ow_q (o_load rfl rfl rfl) rfl<|gF rfl hg13<|ow_call (rs:=[.b x14]) rfl rfl (fa_cons rfl (fa_cons rfl (fa_cons rfl fa_nil))) ((ok_ref06_in hx14).frz)<|gF rfl hg13<|ow_q (u_not rfl) rfl<|gT rfl hg8<|ow_q (o_pickF rfl hg13 rfl) rfl<|ge 5 rfl rfl rfl
     exact ow_q (o_pickT rfl hg8 rfl) rfl<|ge 9 rfl rfl rfl
    ·obtain rfl:=os (bf hx16 hg8)
     exact nT rfl hg8 rfl<|nT rfl hg8 rfl<|ow_noW (wanted_no rfl (by rw [hg8]; rfl)) rfl<|nT rfl hg8 rfl<|nT rfl hg8 rfl<|nX rfl rfl<|nX rfl rfl<|nX rfl rfl<|nX rfl rfl<|nX rfl rfl<|ow_noW (wanted_tup rfl) rfl<|nX rfl rfl<|nT rfl hg8 rfl<|nT rfl hg8 rfl<|nX rfl rfl<|nX rfl rfl<|ow_noW (wanted_tup rfl) rfl<|nX rfl rfl<|nT rfl hg8 rfl<|ow_q (o_pickF rfl hg8 rfl) rfl<|ge 20 rfl rfl rfl
    refine es (ra5 rfl rfl rfl rfl rfl)<|wi hs2 rfl (fun hc17 hs2=>?_) fun hc17 hs2=>?_
    ·refine r0<|qm rfl<|en (ra4 rfl rfl rfl rfl)<|s0<|qm rfl<|ow_q (o_bin (v:=(.b true)) rfl rfl rfl) rfl<|es (ra5 rfl rfl rfl rfl rfl)<|w_condT rfl rfl<|s0<|qm rfl<|qm rfl<|qm rfl<|qm rfl<|es (ra2 rfl rfl)<|w_ret ?_
     obtain rfl:=os hs2
     exact lx rfl (And.intro rfl (retq trivial (rs_tmp rfl (rs_tmp rfl rs_nil)) (ov_cons rfl (ov_cons rfl ov_nil)) (bdL_cons bd_lit (bdL_cons bd_lit bdL_nil)))) (Sub.refl _)
    ·refine w_skip<|s0<|qm rfl<|ow_q (b_neq rfl rfl) rfl<|es (ra5 rfl rfl rfl rfl rfl)<|wi hs2 rfl (fun hc18 hs2=>?_) fun hc18 hs2=>?_
     ·refine s0<|qm rfl<|qm rfl<|qm rfl<|qm rfl<|es (ra2 rfl rfl)<|w_ret ?_
      obtain rfl:=os hs2
      exact lx rfl (And.intro rfl (retq trivial (rs_tmp rfl (rs_tmp rfl rs_nil)) (ov_cons rfl (ov_cons rfl ov_nil)) (bdL_cons bd_lit (bdL_cons bd_lit bdL_nil)))) (Sub.refl _)
     ·refine w_skip<|r0<|qm rfl<|ow_q (b_add rfl rfl) rfl<|qm rfl<|en (ra3 rfl rfl rfl) ?_
      cases hs2
      exact lnT true rfl (su3 rfl rfl rfl)
   ·refine w_exit ?_
    obtain rfl:=os hs2
    exact lx rfl (And.intro rfl (And.intro rfl ⟨q3,rfl⟩)) (.nil _)
  ·rcases o19 with vo19_0 | vo19_1
   ·rintro e s' H' - ⟨rfl,hret⟩
    cases h
    exact hret
   ·rintro e s' H' - ⟨rfl,rfl,q20,rfl⟩
    refine s0<|qm rfl<|qm rfl<|es (ra2 rfl rfl)<|w_ret ?_
    obtain rfl:=os h
    exact retq trivial (rs_tmp rfl (rs_tmp rfl rs_nil)) (ov_cons rfl (ov_cons rfl ov_nil)) (bdL_cons bd_lit (bdL_cons bd_lit bdL_nil))
def ref06_pairs_L1 (a0:VaTrain) (s2:Int):Option (Int⊕((Int×Int)⊕Unit)) :=
 if (decide (s2 < (List.length a0.Apart:Int)))=true then
  (idx a0.Apart s2).bind fun x5 =>
  (ref06_in x5.A 0 (w64 ((List.length a0.Crates:Int) - 1))).bind fun x6 =>
  (if (!x6)=true then
  some true
  else
  (ref06_in x5.B 0 (w64 ((List.length a0.Crates:Int) - 1))).bind fun x8 =>
  some (!x8)).bind fun x9 =>
  if x9=true then
  some (.inr (.inl (s2,4)))
  else
  if (decide (x5.A ≥ x5.B))=true then
   some (.inr (.inl (s2,2)))
  else
   some (.inl (w64 (s2+1)))
 else
  some (.inr (.inr ()))
def ref06_pairs (a0:VaTrain):Option (Int×Int) :=
 if (decide ((List.length a0.Apart:Int) > 4))=true then
  some (0,3)
 else
  (loop (ref06_pairs_L1 a0) 0).bind fun (o12:((Int×Int)⊕Unit)) =>
  match o12 with
  | (.inl vo12_0) =>
  some vo12_0
  | (.inr vo12_1) =>
  some (0,0)
theorem ok_ref06_pairs {c:Sc} {H:AHeap} {a0:VaTrain} {r:(Int×Int)} (h:ref06_pairs a0=some r) :
  CallE tab c H (.fn (.func 63) [] []) [(.agg (c_VaTrain a0))] [.i r.1,.i r.2]:= by
 unfold ref06_pairs at h
 refine cE rfl rfl<|sg 0 rfl<|ow_q (o_box (cs:=c_VaTrain a0) rfl rfl rfl) rfl<|qm rfl<|qm rfl<|es (ra1 rfl)<|w_seq<|s0<|ow_q (o_faP rfl) rfl<|ow_q (o_load rfl rfl rfl) rfl<|ow_q (o_lenL (f:=c_VaPair) rfl) rfl<|ow_q (b_gtr rfl rfl) rfl<|es (ra2 rfl rfl)<|wi h rfl (fun hc1 h=>?_) fun hc1 h=>?_
 ·refine s0<|qm rfl<|qm rfl<|es (ra2 rfl rfl)<|w_ret ?_
  obtain rfl:=os h
  exact retq trivial (rs_tmp rfl (rs_tmp rfl rs_nil)) (ov_cons rfl (ov_cons rfl ov_nil)) (bdL_cons bd_lit (bdL_cons bd_lit bdL_nil))
 ·refine w_skip<|w_seq<|s0<|qm rfl<|es (ra2 rfl rfl)<|w_block<|oB h fun o12 ho12 h=>wl (fun s2=>[(1,(.ptr (H.length + 0) 0)),(4,.i s2)]) (fun (q3:Unit) s2=>[(.cells (c_VaTrain a0))]) 1 (fun r e s' H'=>(match r with | (.inl v)=>e = .ret∧RetQ H [.tmp 2,.tmp 3] [.i v.1,.i v.2] e s' H' | (.inr v)=>PX 0 [] (H++[(.cells (c_VaTrain a0))]) e s' H':Prop)) () ho12 rfl rfl (fun _ _=>rfl) (fun _=>rfl) rfl (fun s2=>(bdc (bd_ptr rfl) (bdc bd_lit bdn))) (fun q3 s2 ys2 hs2=>?_) ?_
  ·unfold ref06_pairs_L1 at hs2
   refine w_seq<|s0<|qm rfl<|ow_q (o_faP rfl) rfl<|ow_q (o_load rfl rfl rfl) rfl<|ow_q (o_lenL (f:=c_VaPair) rfl) rfl<|ow_q (b_lss rfl rfl) rfl<|es (ra3 rfl rfl rfl)<|wi hs2 rfl (fun hc4 hs2=>?_) fun hc4 hs2=>?_
   ·refine w_skip<|w_seq<|w_block<|sg 1 rfl<|oB hs2 fun x5 hx5 hs2=>ow_q (o_faP rfl) rfl<|ow_q (o_load rfl rfl rfl) rfl<|qm rfl<|ow_q (o_idxS (f:=c_VaPair) rfl rfl hx5) rfl<|ow_q (o_loadCW rfl rfl) rfl<|ow_q o_alloc rfl<|ow_r (o_store (ds:=(c_VaPair x5)) rfl rfl rfl rfl (okL_plain rfl) rfl) rfl<|es (ra3 rfl rfl rfl)<|w_seq<|s0<|oB hs2 fun x6 hx6 hs2=>oB hs2 fun x9 hx9 hs2=>ow_q (o_faP rfl) rfl<|ow_q (o_load rfl rfl rfl) rfl<|ow_q (o_faP rfl) rfl<|ow_q (o_load rfl rfl rfl) rfl<|ow_q (o_lenL (f:=c_VaCrate) rfl) rfl<|ow_q (b_sub rfl rfl) rfl<|ow_call (rs:=[.b x6]) rfl rfl (fa_cons rfl (fa_cons rfl (fa_cons rfl fa_nil))) ((ok_ref06_in hx6).frz)<|ow_q (u_not rfl) rfl<|qm rfl<|gp 9 39 (.b x9) 30 rfl rfl (fun hg7=>?_) (fun hg7=>?_) ?_
    ·obtain rfl:=os (bt hx9 hg7)
     exact nF rfl hg7 rfl<|nF rfl hg7 rfl<|nF rfl hg7 rfl<|nF rfl hg7 rfl<|nF rfl hg7 rfl<|nF rfl hg7 rfl<|ow_noW (wanted_no rfl (by rw [hg7]; rfl)) rfl<|nF rfl hg7 rfl<|ow_q (o_pickT rfl hg7 rfl) rfl<|ge 9 rfl rfl rfl
    ·refine oB (bf hx9 hg7) fun x8 hx8 hx9=>?_
     obtain rfl:=os hx9
     exact gF rfl hg7<|ow_q (o_faP rfl) rfl<|gF rfl hg7<|ow_q (o_load rfl rfl rfl) rfl<|gF rfl hg7<|ow_q (o_faP rfl) rfl<|gF rfl hg7<|ow_q (o_load rfl rfl rfl) rfl<|gF rfl hg7<|ow_q (o_lenL (f:=c_VaCrate) rfl) rfl<|gF rfl hg7<|ow_q (b_sub rfl rfl) rfl<|gF rfl hg7<|ow_call (rs:=[.b x8]) rfl rfl (fa_cons rfl (fa_cons rfl (fa_cons rfl fa_nil))) ((ok_ref06_in hx8).frz)<|gF rfl hg7<|ow_q (u_not rfl) rfl<|ow_q (o_pickF rfl hg7 rfl) rfl<|ge 9 rfl rfl rfl
    refine es (ra4 rfl rfl rfl rfl)<|wi hs2 rfl (fun hc10 hs2=>?_) fun hc10 hs2=>?_
    ·refine s0<|qm rfl<|qm rfl<|qm rfl<|es (ra2 rfl rfl)<|w_ret ?_
     obtain rfl:=os hs2
     exact lx rfl (And.intro rfl (retq trivial (rs_tmp rfl (rs_tmp rfl rs_nil)) (ov_cons rfl (ov_cons rfl ov_nil)) (bdL_cons bd_lit (bdL_cons bd_lit bdL_nil)))) (Sub.refl _)
    ·refine w_skip<|s0<|ow_q (o_faP rfl) rfl<|ow_q (o_load rfl rfl rfl) rfl<|ow_q (o_faP rfl) rfl<|ow_q (o_load rfl rfl rfl) rfl<|ow_q (b_geq rfl rfl) rfl<|es (ra3 rfl rfl rfl)<|wi hs2 rfl (fun hc11 hs2=>?_) fun hc11 hs2=>?_
     ·refine s0<|qm rfl<|qm rfl<|qm rfl<|es (ra2 rfl rfl)<|w_ret ?_
      obtain rfl:=os hs2
      exact lx rfl (And.intro rfl (retq trivial (rs_tmp rfl (rs_tmp rfl rs_nil)) (ov_cons rfl (ov_cons rfl ov_nil)) (bdL_cons bd_lit (bdL_cons bd_lit bdL_nil)))) (Sub.refl _)
     ·refine w_skip<|r0<|qm rfl<|ow_q (b_add rfl rfl) rfl<|qm rfl<|en (ra2 rfl rfl) ?_
      cases hs2
      exact lnT () rfl (su2 rfl rfl)
   ·refine w_exit ?_
    obtain rfl:=os hs2
    exact lx rfl px (.nil _)
  ·rcases o12 with vo12_0 | vo12_1
   ·rintro e s' H' - ⟨rfl,hret⟩
    cases h
    exact hret
   ·rintro e s' H' - ⟨rfl,rfl,rfl⟩
    refine s0<|qm rfl<|qm rfl<|es (ra2 rfl rfl)<|w_ret ?_
    obtain rfl:=os h
    exact retq trivial (rs_tmp rfl (rs_tmp rfl rs_nil)) (ov_cons rfl (ov_cons rfl ov_nil)) (bdL_cons bd_lit (bdL_cons bd_lit bdL_nil))
def ref01_Ends (a0:Span) (a1:Int) (a2:Int):Option Int :=
 (ref01_within a0.Lo a1 a2).bind fun x1 =>
 (if (!x1)=true then
  some true
 else
  (ref01_within a0.Hi a1 a2).bind fun x3 =>
  some (!x3)).bind fun x4 =>
 if x4=true then
  some 7
 else
  if (decide (a0.Hi < a0.Lo))=true then
  some 2
  else
  some 0
theorem ok_ref01_Ends {c:Sc} {H:AHeap} {a0:Span} {a1:Int} {a2:Int} {r:Int} (h:ref01_Ends a0 a1 a2=some r) :
  CallE tab c H (.fn (.func 114) [] []) [(.agg (c_Span a0)),.i a1,.i a2] [.i r]:= by
 unfold ref01_Ends at h
 refine cE rfl rfl<|sg 0 rfl<|ow_q (o_box (cs:=c_Span a0) rfl rfl rfl) rfl<|qm rfl<|es (ra3 rfl rfl rfl)<|w_seq<|s0<|oB h fun x1 hx1 h=>oB h fun x4 hx4 h=>ow_q (o_faP rfl) rfl<|ow_q (o_load rfl rfl rfl) rfl<|qm rfl<|qm rfl<|ow_call (rs:=[.b x1]) rfl rfl (fa_cons rfl (fa_cons rfl (fa_cons rfl fa_nil))) ((ok_ref01_within hx1).frz)<|ow_q (u_not rfl) rfl<|qm rfl<|gp 7 20 (.b x4) 13 rfl rfl (fun hg2=>?_) (fun hg2=>?_) ?_
 ·obtain rfl:=os (bt hx4 hg2)
  exact nF rfl hg2 rfl<|nF rfl hg2 rfl<|nF rfl hg2 rfl<|nF rfl hg2 rfl<|ow_noW (wanted_no rfl (by rw [hg2]; rfl)) rfl<|nF rfl hg2 rfl<|ow_q (o_pickT rfl hg2 rfl) rfl<|ge 7 rfl rfl rfl
 ·refine oB (bf hx4 hg2) fun x3 hx3 hx4=>?_
  obtain rfl:=os hx4
  exact gF rfl hg2<|ow_q (o_faP rfl) rfl<|gF rfl hg2<|ow_q (o_load rfl rfl rfl) rfl<|gF rfl hg2<|qm rfl<|gF rfl hg2<|qm rfl<|gF rfl hg2<|ow_call (rs:=[.b x3]) rfl rfl (fa_cons rfl (fa_cons rfl (fa_cons rfl fa_nil))) ((ok_ref01_within hx3).frz)<|gF rfl hg2<|ow_q (u_not rfl) rfl<|ow_q (o_pickF rfl hg2 rfl) rfl<|ge 7 rfl rfl rfl
 refine es (ra2 rfl rfl)<|wi h rfl (fun hc5 h=>?_) fun hc5 h=>?_
 ·refine s0<|qm rfl<|es (ra1 rfl)<|w_ret ?_
  obtain rfl:=os h
  exact retq trivial (rs_tmp rfl rs_nil) (ov_cons rfl ov_nil) (bdL_cons bd_lit bdL_nil)
 ·refine w_skip<|w_seq<|s0<|ow_q (o_faP rfl) rfl<|ow_q (o_load rfl rfl rfl) rfl<|ow_q (o_faP rfl) rfl<|ow_q (o_load rfl rfl rfl) rfl<|ow_q (b_lss rfl rfl) rfl<|es (ra1 rfl)<|wi h rfl (fun hc6 h=>?_) fun hc6 h=>?_
  ·refine s0<|qm rfl<|es (ra1 rfl)<|w_ret ?_
   obtain rfl:=os h
   exact retq trivial (rs_tmp rfl rs_nil) (ov_cons rfl ov_nil) (bdL_cons bd_lit bdL_nil)
  ·refine w_skip<|s0<|qm rfl<|es (ra1 rfl)<|w_ret ?_
   obtain rfl:=os h
   exact retq trivial (rs_tmp rfl rs_nil) (ov_cons rfl ov_nil) (bdL_cons bd_lit bdL_nil)
def ref06_van_L1 (a1:VaVan) (s7:Int):Option (Int⊕(Int⊕Unit)) :=
 if (decide (s7 < (List.length a1.Legs:Int)))=true then
  (idx a1.Legs s7).bind fun x10 =>
  (ref01_Ends x10 0 600).bind fun x11 =>
  if (x11 != 0)=true then
  some (.inr (.inl x11))
  else
  some (.inl (w64 (s7+1)))
 else
  some (.inr (.inr ()))
def ref06_van (a0:VaTrain) (a1:VaVan):Option Int :=
 (ref06_in a1.Room 0 20).bind fun x1 =>
 (if (!x1)=true then
  some true
 else
  (ref06_in a1.Leave 0 5000).bind fun x3 =>
  some (!x3)).bind fun x4 =>
 if x4=true then
  some 7
 else
  if ((List.length a1.Legs:Int) != a0.Stops)=true then
  some 3
  else
  (loop (ref06_van_L1 a1) 0).bind fun (o13:(Int⊕Unit)) =>
  match o13 with
  | (.inl vo13_0) =>
   some vo13_0
  | (.inr vo13_1) =>
   some 0
theorem ok_ref06_van {c:Sc} {H:AHeap} {a0:VaTrain} {a1:VaVan} {r:Int} (h:ref06_van a0 a1=some r) :
  CallE tab c H (.fn (.func 97) [] []) [(.agg (c_VaTrain a0)),(.agg (c_VaVan a1))] [.i r]:= by
 unfold ref06_van at h
 refine cE rfl rfl<|sg 0 rfl<|ow_q (o_box (cs:=c_VaTrain a0) rfl rfl rfl) rfl<|ow_q (o_box (cs:=c_VaVan a1) rfl rfl rfl) rfl<|qm rfl<|es (ra2 rfl rfl)<|w_seq<|s0<|oB h fun x1 hx1 h=>oB h fun x4 hx4 h=>ow_q (o_faP rfl) rfl<|ow_q (o_load rfl rfl rfl) rfl<|ow_call (rs:=[.b x1]) rfl rfl (fa_cons rfl (fa_cons rfl (fa_cons rfl fa_nil))) ((ok_ref06_in hx1).frz)<|ow_q (u_not rfl) rfl<|qm rfl<|gp 5 16 (.b x4) 11 rfl rfl (fun hg2=>?_) (fun hg2=>?_) ?_
 ·obtain rfl:=os (bt hx4 hg2)
  exact nF rfl hg2 rfl<|nF rfl hg2 rfl<|ow_noW (wanted_no rfl (by rw [hg2]; rfl)) rfl<|nF rfl hg2 rfl<|ow_q (o_pickT rfl hg2 rfl) rfl<|ge 5 rfl rfl rfl
 ·refine oB (bf hx4 hg2) fun x3 hx3 hx4=>?_
  obtain rfl:=os hx4
  exact gF rfl hg2<|ow_q (o_faP rfl) rfl<|gF rfl hg2<|ow_q (o_load rfl rfl rfl) rfl<|gF rfl hg2<|ow_call (rs:=[.b x3]) rfl rfl (fa_cons rfl (fa_cons rfl (fa_cons rfl fa_nil))) ((ok_ref06_in hx3).frz)<|gF rfl hg2<|ow_q (u_not rfl) rfl<|ow_q (o_pickF rfl hg2 rfl) rfl<|ge 5 rfl rfl rfl
 refine es (ra3 rfl rfl rfl)<|wi h rfl (fun hc5 h=>?_) fun hc5 h=>?_
 ·refine s0<|qm rfl<|es (ra1 rfl)<|w_ret ?_
  obtain rfl:=os h
  exact retq trivial (rs_tmp rfl rs_nil) (ov_cons rfl ov_nil) (bdL_cons bd_lit bdL_nil)
 ·refine w_skip<|w_seq<|s0<|ow_q (o_faP rfl) rfl<|ow_q (o_load rfl rfl rfl) rfl<|ow_q (o_lenL (f:=c_Span) rfl) rfl<|ow_q (o_faP rfl) rfl<|ow_q (o_load rfl rfl rfl) rfl<|ow_q (b_neq rfl rfl) rfl<|es (ra2 rfl rfl)<|wi h rfl (fun hc6 h=>?_) fun hc6 h=>?_
  ·refine s0<|qm rfl<|es (ra1 rfl)<|w_ret ?_
   obtain rfl:=os h
   exact retq trivial (rs_tmp rfl rs_nil) (ov_cons rfl ov_nil) (bdL_cons bd_lit bdL_nil)
  ·refine w_skip<|w_seq<|s0<|qm rfl<|es (ra2 rfl rfl)<|w_block<|oB h fun o13 ho13 h=>wl (fun s7=>[(3,(.ptr (H.length + 1) 0)),(5,.i s7)]) (fun (q8:Unit) s7=>[(.cells (c_VaTrain a0)),(.cells (c_VaVan a1))]) 2 (fun r e s' H'=>(match r with | (.inl v)=>e = .ret∧RetQ H [.tmp 4] [.i v] e s' H' | (.inr v)=>PX 0 [] (H++[(.cells (c_VaTrain a0)),(.cells (c_VaVan a1))]) e s' H':Prop)) () ho13 rfl rfl (fun _ _=>rfl) (fun _=>rfl) rfl (fun s7=>(bdc (bd_ptr rfl) (bdc bd_lit bdn))) (fun q8 s7 ys7 hs7=>?_) ?_
   ·unfold ref06_van_L1 at hs7
    refine w_seq<|s0<|qm rfl<|ow_q (o_faP rfl) rfl<|ow_q (o_load rfl rfl rfl) rfl<|ow_q (o_lenL (f:=c_Span) rfl) rfl<|ow_q (b_lss rfl rfl) rfl<|es (ra3 rfl rfl rfl)<|wi hs7 rfl (fun hc9 hs7=>?_) fun hc9 hs7=>?_
    ·refine w_skip<|w_seq<|w_block<|s0<|oB hs7 fun x10 hx10 hs7=>oB hs7 fun x11 hx11 hs7=>ow_q (o_faP rfl) rfl<|ow_q (o_load rfl rfl rfl) rfl<|qm rfl<|ow_q (o_idxS (f:=c_Span) rfl rfl hx10) rfl<|ow_q (o_loadCW rfl rfl) rfl<|ow_call (rs:=[.i x11]) rfl rfl (fa_cons (fa_agg rfl) (fa_cons rfl (fa_cons rfl fa_nil))) ((ok_ref01_Ends hx11).frz)<|qm rfl<|es (ra3 rfl rfl rfl)<|s0<|qm rfl<|ow_q (b_neq rfl rfl) rfl<|es (ra4 rfl rfl rfl rfl)<|wi hs7 rfl (fun hc12 hs7=>?_) fun hc12 hs7=>?_
     ·refine s0<|qm rfl<|qm rfl<|es (ra1 rfl)<|w_ret ?_
      obtain rfl:=os hs7
      exact lx rfl (And.intro rfl (retq trivial (rs_tmp rfl rs_nil) (ov_cons rfl ov_nil) (bdL_cons bd_lit bdL_nil))) (Sub.refl _)
     ·refine w_skip<|r0<|qm rfl<|ow_q (b_add rfl rfl) rfl<|qm rfl<|en (ra2 rfl rfl) ?_
      cases hs7
      exact lnT () rfl (su2 rfl rfl)
    ·refine w_exit ?_
     obtain rfl:=os hs7
     exact lx rfl px (.nil _)
   ·rcases o13 with vo13_0 | vo13_1
    ·rintro e s' H' - ⟨rfl,hret⟩
     cases h
     exact hret
    ·rintro e s' H' - ⟨rfl,rfl,rfl⟩
     refine s0<|qm rfl<|es (ra1 rfl)<|w_ret ?_
     obtain rfl:=os h
     exact retq trivial (rs_tmp rfl rs_nil) (ov_cons rfl ov_nil) (bdL_cons bd_lit bdL_nil)
def ref06_vans_L1 (a0:VaTrain) (s3:(Int×(List ByteArray))):Option ((Int×(List ByteArray))⊕((Int×Int)⊕(List ByteArray))) :=
 if (decide (s3.1 < (List.length a0.Vans:Int)))=true then
  (idx a0.Vans s3.1).bind fun x6 =>
  (ref01_New x6.Name s3.2).bind fun x7 =>
  (idx a0.Vans s3.1).bind fun x8 =>
  (app 16 s3.2 [x8.Name]).bind fun x9 =>
  if (x7 == 0)=true then
  (idx a0.Vans s3.1).bind fun x11 =>
  (ref06_van a0 x11).bind fun x12 =>
  if (x12 != 0)=true then
   some (.inr (.inl (s3.1,x12)))
  else
   some (.inl ((w64 (s3.1+1)),x9))
  else
  if (x7 != 0)=true then
   some (.inr (.inl (s3.1,x7)))
  else
   some (.inl ((w64 (s3.1+1)),x9))
 else
  some (.inr (.inr s3.2))
def ref06_vans (a0:VaTrain):Option (Int×Int) :=
 (ref06_in (List.length a0.Vans:Int) 1 3).bind fun x1 =>
 if (!x1)=true then
  some (0,3)
 else
  (loop (ref06_vans_L1 a0) (0,([]:List ByteArray))).bind fun (o15:((Int×Int)⊕(List ByteArray))) =>
  match o15 with
  | (.inl vo15_0) =>
  some vo15_0
  | (.inr vo15_1) =>
  some (0,0)
theorem ok_ref06_vans {c:Sc} {H:AHeap} {a0:VaTrain} {r:(Int×Int)} (h:ref06_vans a0=some r) :
  CallE tab c H (.fn (.func 61) [] []) [(.agg (c_VaTrain a0))] [.i r.1,.i r.2]:= by
 unfold ref06_vans at h
 refine cE rfl rfl<|sg 0 rfl<|ow_q (o_box (cs:=c_VaTrain a0) rfl rfl rfl) rfl<|qm rfl<|qm rfl<|es (ra1 rfl)<|w_seq<|s0<|oB h fun x1 hx1 h=>ow_q (o_faP rfl) rfl<|ow_q (o_load rfl rfl rfl) rfl<|ow_q (o_lenL (f:=c_VaVan) rfl) rfl<|ow_call (rs:=[.b x1]) rfl rfl (fa_cons rfl (fa_cons rfl (fa_cons rfl fa_nil))) ((ok_ref06_in hx1).frz)<|ow_q (u_not rfl) rfl<|es (ra2 rfl rfl)<|wi h rfl (fun hc2 h=>?_) fun hc2 h=>?_
 ·refine s0<|qm rfl<|qm rfl<|es (ra2 rfl rfl)<|w_ret ?_
  obtain rfl:=os h
  exact retq trivial (rs_tmp rfl (rs_tmp rfl rs_nil)) (ov_cons rfl (ov_cons rfl ov_nil)) (bdL_cons bd_lit (bdL_cons bd_lit bdL_nil))
 ·refine w_skip<|sg 1 rfl<|ow_q o_nil rfl<|es (ra2 rfl rfl)<|w_seq<|s0<|qm rfl<|es (ra3 rfl rfl rfl)<|w_block<|oB h fun o15 ho15 h=>wl (fun s3=>[(1,(.ptr (H.length + 0) 0)),(4,(.asl (H.length + 1) (List.length s3.2))),(5,.i s3.1)]) (fun (q4:Bool) s3=>[(.cells (c_VaTrain a0)),(.arr 1 q4 (List.map cS s3.2))]) 2 (fun r e s' H'=>(match r with | (.inl v)=>e = .ret∧RetQ H [.tmp 2,.tmp 3] [.i v.1,.i v.2] e s' H' | (.inr v)=>e = (.exit 0)∧s' = []∧∃ (q0q:Bool),H' = (H++[(.cells (c_VaTrain a0)),(.arr 1 q0q (List.map cS v))]):Prop)) false ho15 rfl rfl (fun _ _=>rfl) (fun _=>rfl) rfl (fun s3=>(bdc (bd_ptr rfl) (bdc (bd_asl rfl) (bdc bd_lit bdn)))) (fun q4 s3 ys3 hs3=>?_) ?_
  ·unfold ref06_vans_L1 at hs3
   refine w_seq<|s0<|qm rfl<|ow_q (o_faP rfl) rfl<|ow_q (o_load rfl rfl rfl) rfl<|ow_q (o_lenL (f:=c_VaVan) rfl) rfl<|ow_q (b_lss rfl rfl) rfl<|es (ra4 rfl rfl rfl rfl)<|wi hs3 rfl (fun hc5 hs3=>?_) fun hc5 hs3=>?_
   ·refine w_skip<|w_seq<|w_block<|s0<|oB hs3 fun x6 hx6 hs3=>oB hs3 fun x7 hx7 hs3=>ow_q (o_faP rfl) rfl<|ow_q (o_load rfl rfl rfl) rfl<|qm rfl<|ow_q (o_idxS (f:=c_VaVan) rfl rfl hx6) rfl<|ow_q (o_faC (ds:=(c_VaVan x6)) rfl rfl) rfl<|ow_q (o_loadC rfl rfl) rfl<|qm rfl<|ow_call (rs:=[.i x7]) rfl rfl (fa_cons rfl (fa_cons (fa_own rfl (List.length_map _)) fa_nil)) ((ok_ref01_New hx7).frz)<|qm rfl<|es (ra4 rfl rfl rfl rfl)<|s0<|oB hs3 fun x8 hx8 hs3=>oB hs3 fun x9 hx9 hs3=>qm rfl<|ow_q (o_faP rfl) rfl<|ow_q (o_load rfl rfl rfl) rfl<|qm rfl<|ow_q (o_idxS (f:=c_VaVan) rfl rfl hx8) rfl<|ow_q (o_faC (ds:=(c_VaVan x8)) rfl rfl) rfl<|ow_q (o_loadC rfl rfl) rfl<|ow_q (o_lits (rows:=List.map cS [x8.Name]) rfl rfl (frzR_map (fun _=>rfl) _)) rfl<|ow_w (o_appO (f:=cS) rfl rfl rfl rfl rd_seq (fun _=>rfl) hx9) rfl<|qm rfl<|es (ra4 rfl rfl rfl rfl)<|w_seq<|s0<|qm rfl<|ow_q (b_eql rfl rfl) rfl<|es (ra5 rfl rfl rfl rfl rfl)<|wi hs3 rfl (fun hc10 hs3=>?_) fun hc10 hs3=>?_
    ·refine r0<|oB hs3 fun x11 hx11 hs3=>oB hs3 fun x12 hx12 hs3=>ow_q (o_loadW rfl rfl rfl) rfl<|ow_q (o_faP rfl) rfl<|ow_q (o_load rfl rfl rfl) rfl<|qm rfl<|ow_q (o_idxS (f:=c_VaVan) rfl rfl hx11) rfl<|ow_q (o_loadCW rfl rfl) rfl<|ow_call (rs:=[.i x12]) rfl rfl (fa_cons (fa_agg rfl) (fa_cons (fa_agg rfl) fa_nil)) ((ok_ref06_van hx12).frz)<|qm rfl<|en (ra4 rfl rfl rfl rfl)<|s0<|qm rfl<|ow_q (b_neq rfl rfl) rfl<|es (ra5 rfl rfl rfl rfl rfl)<|wi hs3 rfl (fun hc13 hs3=>?_) fun hc13 hs3=>?_
     ·refine s0<|qm rfl<|qm rfl<|qm rfl<|qm rfl<|es (ra2 rfl rfl)<|w_ret ?_
      obtain rfl:=os hs3
      exact lx rfl (And.intro rfl (retq trivial (rs_tmp rfl (rs_tmp rfl rs_nil)) (ov_cons rfl (ov_cons rfl ov_nil)) (bdL_cons bd_lit (bdL_cons bd_lit bdL_nil)))) (Sub.refl _)
     ·refine w_skip<|r0<|qm rfl<|ow_q (b_add rfl rfl) rfl<|qm rfl<|en (ra3 rfl rfl rfl) ?_
      cases hs3
      exact lnT true rfl (su3 rfl rfl rfl)
    ·refine w_skip<|s0<|qm rfl<|ow_q (b_neq rfl rfl) rfl<|es (ra5 rfl rfl rfl rfl rfl)<|wi hs3 rfl (fun hc14 hs3=>?_) fun hc14 hs3=>?_
     ·refine s0<|qm rfl<|qm rfl<|qm rfl<|qm rfl<|es (ra2 rfl rfl)<|w_ret ?_
      obtain rfl:=os hs3
      exact lx rfl (And.intro rfl (retq trivial (rs_tmp rfl (rs_tmp rfl rs_nil)) (ov_cons rfl (ov_cons rfl ov_nil)) (bdL_cons bd_lit (bdL_cons bd_lit bdL_nil)))) (Sub.refl _)
     ·refine w_skip<|r0<|qm rfl<|ow_q (b_add rfl rfl) rfl<|qm rfl<|en (ra3 rfl rfl rfl) ?_
      cases hs3
      exact lnT true rfl (su3 rfl rfl rfl)
   ·refine w_exit ?_
    obtain rfl:=os hs3
    exact lx rfl (And.intro rfl (And.intro rfl ⟨q4,rfl⟩)) (.nil _)
  ·rcases o15 with vo15_0 | vo15_1
   ·rintro e s' H' - ⟨rfl,hret⟩
    cases h
    exact hret
   ·rintro e s' H' - ⟨rfl,rfl,q16,rfl⟩
    refine s0<|qm rfl<|qm rfl<|es (ra2 rfl rfl)<|w_ret ?_
    obtain rfl:=os h
    exact retq trivial (rs_tmp rfl (rs_tmp rfl rs_nil)) (ov_cons rfl (ov_cons rfl ov_nil)) (bdL_cons bd_lit (bdL_cons bd_lit bdL_nil))
def ref06_Check (a0:VaTrain):Option (Int×Int×Int) :=
 (ref06_in a0.Stops 1 3).bind fun x1 =>
 (if (!x1)=true then
  some true
 else
  (ref06_in a0.Handle 0 60).bind fun x3 =>
  some (!x3)).bind fun x4 =>
 if x4=true then
  some (1,0,7)
 else
  (ref06_vans a0).bind fun x6 =>
  if (x6.2 != 0)=true then
  some (2,x6.1,x6.2)
  else
  (ref06_crates a0).bind fun x8 =>
  if (x8.2 != 0)=true then
   some (3,x8.1,x8.2)
  else
   (ref06_pairs a0).bind fun x10 =>
   if (x10.2 != 0)=true then
   some (4,x10.1,x10.2)
   else
   some (0,0,0)
theorem ok_ref06_Check {c:Sc} {H:AHeap} {a0:VaTrain} {r:(Int×Int×Int)} (h:ref06_Check a0=some r) :
  CallE tab c H (.fn (.func 17) [] []) [(.agg (c_VaTrain a0))] [.i r.1,.i r.2.1,.i r.2.2]:= by
 unfold ref06_Check at h
 refine cE rfl rfl<|sg 0 rfl<|ow_q (o_box (cs:=c_VaTrain a0) rfl rfl rfl) rfl<|qm rfl<|qm rfl<|qm rfl<|es (ra1 rfl)<|w_seq<|s0<|oB h fun x1 hx1 h=>oB h fun x4 hx4 h=>ow_q (o_faP rfl) rfl<|ow_q (o_load rfl rfl rfl) rfl<|ow_call (rs:=[.b x1]) rfl rfl (fa_cons rfl (fa_cons rfl (fa_cons rfl fa_nil))) ((ok_ref06_in hx1).frz)<|ow_q (u_not rfl) rfl<|qm rfl<|gp 5 16 (.b x4) 11 rfl rfl (fun hg2=>?_) (fun hg2=>?_) ?_
 ·obtain rfl:=os (bt hx4 hg2)
  exact nF rfl hg2 rfl<|nF rfl hg2 rfl<|ow_noW (wanted_no rfl (by rw [hg2]; rfl)) rfl<|nF rfl hg2 rfl<|ow_q (o_pickT rfl hg2 rfl) rfl<|ge 5 rfl rfl rfl
 ·refine oB (bf hx4 hg2) fun x3 hx3 hx4=>?_
  obtain rfl:=os hx4
  exact gF rfl hg2<|ow_q (o_faP rfl) rfl<|gF rfl hg2<|ow_q (o_load rfl rfl rfl) rfl<|gF rfl hg2<|ow_call (rs:=[.b x3]) rfl rfl (fa_cons rfl (fa_cons rfl (fa_cons rfl fa_nil))) ((ok_ref06_in hx3).frz)<|gF rfl hg2<|ow_q (u_not rfl) rfl<|ow_q (o_pickF rfl hg2 rfl) rfl<|ge 5 rfl rfl rfl
 refine es (ra2 rfl rfl)<|wi h rfl (fun hc5 h=>?_) fun hc5 h=>?_
 ·refine s0<|qm rfl<|qm rfl<|qm rfl<|es (ra3 rfl rfl rfl)<|w_ret ?_
  obtain rfl:=os h
  exact retq trivial (rs_tmp rfl (rs_tmp rfl (rs_tmp rfl rs_nil))) (ov_cons rfl (ov_cons rfl (ov_cons rfl ov_nil))) (bdL_cons bd_lit (bdL_cons bd_lit (bdL_cons bd_lit bdL_nil)))
 ·refine w_skip<|s0<|oB h fun x6 hx6 h=>ow_q (o_loadW rfl rfl rfl) rfl<|ow_call (rs:=[.i x6.1,.i x6.2]) rfl rfl (fa_cons (fa_agg rfl) fa_nil) ((ok_ref06_vans hx6).frz)<|qm rfl<|ow_q (o_extract rfl rfl) rfl<|ow_q (o_extract rfl rfl) rfl<|qm rfl<|qm rfl<|es (ra3 rfl rfl rfl)<|w_seq<|s0<|qm rfl<|ow_q (b_neq rfl rfl) rfl<|es (ra4 rfl rfl rfl rfl)<|wi h rfl (fun hc7 h=>?_) fun hc7 h=>?_
  ·refine s0<|qm rfl<|qm rfl<|qm rfl<|qm rfl<|qm rfl<|es (ra3 rfl rfl rfl)<|w_ret ?_
   obtain rfl:=os h
   exact retq trivial (rs_tmp rfl (rs_tmp rfl (rs_tmp rfl rs_nil))) (ov_cons rfl (ov_cons rfl (ov_cons rfl ov_nil))) (bdL_cons bd_lit (bdL_cons bd_lit (bdL_cons bd_lit bdL_nil)))
  ·refine w_skip<|s0<|oB h fun x8 hx8 h=>ow_q (o_loadW rfl rfl rfl) rfl<|ow_call (rs:=[.i x8.1,.i x8.2]) rfl rfl (fa_cons (fa_agg rfl) fa_nil) ((ok_ref06_crates hx8).frz)<|qm rfl<|ow_q (o_extract rfl rfl) rfl<|ow_q (o_extract rfl rfl) rfl<|qm rfl<|qm rfl<|es (ra3 rfl rfl rfl)<|w_seq<|s0<|qm rfl<|ow_q (b_neq rfl rfl) rfl<|es (ra4 rfl rfl rfl rfl)<|wi h rfl (fun hc9 h=>?_) fun hc9 h=>?_
   ·refine s0<|qm rfl<|qm rfl<|qm rfl<|qm rfl<|qm rfl<|es (ra3 rfl rfl rfl)<|w_ret ?_
    obtain rfl:=os h
    exact retq trivial (rs_tmp rfl (rs_tmp rfl (rs_tmp rfl rs_nil))) (ov_cons rfl (ov_cons rfl (ov_cons rfl ov_nil))) (bdL_cons bd_lit (bdL_cons bd_lit (bdL_cons bd_lit bdL_nil)))
   ·refine w_skip<|s0<|oB h fun x10 hx10 h=>ow_q (o_loadW rfl rfl rfl) rfl<|ow_call (rs:=[.i x10.1,.i x10.2]) rfl rfl (fa_cons (fa_agg rfl) fa_nil) ((ok_ref06_pairs hx10).frz)<|qm rfl<|ow_q (o_extract rfl rfl) rfl<|ow_q (o_extract rfl rfl) rfl<|qm rfl<|qm rfl<|es (ra2 rfl rfl)<|w_seq<|s0<|qm rfl<|ow_q (b_neq rfl rfl) rfl<|es (ra3 rfl rfl rfl)<|wi h rfl (fun hc11 h=>?_) fun hc11 h=>?_
    ·refine s0<|qm rfl<|qm rfl<|qm rfl<|qm rfl<|qm rfl<|es (ra3 rfl rfl rfl)<|w_ret ?_
     obtain rfl:=os h
     exact retq trivial (rs_tmp rfl (rs_tmp rfl (rs_tmp rfl rs_nil))) (ov_cons rfl (ov_cons rfl (ov_cons rfl ov_nil))) (bdL_cons bd_lit (bdL_cons bd_lit (bdL_cons bd_lit bdL_nil)))
    ·refine w_skip<|s0<|qm rfl<|qm rfl<|qm rfl<|es (ra3 rfl rfl rfl)<|w_ret ?_
     obtain rfl:=os h
     exact retq trivial (rs_tmp rfl (rs_tmp rfl (rs_tmp rfl rs_nil))) (ov_cons rfl (ov_cons rfl (ov_cons rfl ov_nil))) (bdL_cons bd_lit (bdL_cons bd_lit (bdL_cons bd_lit bdL_nil)))
def ref06_Size_L1 (a0:VaTrain) (a1:(List Int)) (a2:Int) (s1:(Int×Int)):Option ((Int×Int)⊕Int) :=
 if (decide (s1.2 < (List.length a1:Int)))=true then
  (idx a1 s1.2).bind fun x4 =>
  if (x4 == a2)=true then
  (idx a0.Crates s1.2).bind fun x6 =>
  some (.inl ((w64 (s1.1+x6.Size)),(w64 (s1.2+1))))
  else
  some (.inl (s1.1,(w64 (s1.2+1))))
 else
  some (.inr s1.1)
def ref06_Size (a0:VaTrain) (a1:(List Int)) (a2:Int):Option Int :=
 (loop (ref06_Size_L1 a0 a1 a2) (0,0)).bind fun (o7:Int) =>
 some o7
theorem ok_ref06_Size {c:Sc} {H:AHeap} {a0:VaTrain} {a1:(List Int)} {a2:Int} {r:Int} (h:ref06_Size a0 a1 a2=some r) :
  CallE tab c H (.fn (.func 105) [] []) [(.agg (c_VaTrain a0)),(.seq 1 (List.map cI a1)),.i a2] [.i r]:= by
 unfold ref06_Size at h
 refine cE rfl rfl<|sg 0 rfl<|ow_q (o_box (cs:=c_VaTrain a0) rfl rfl rfl) rfl<|qm rfl<|es (ra3 rfl rfl rfl)<|s0<|qm rfl<|es (ra4 rfl rfl rfl rfl)<|w_seq<|s0<|qm rfl<|es (ra5 rfl rfl rfl rfl rfl)<|w_block<|oB h fun o7 ho7 h=>wl (fun s1=>[(1,(.seq 1 (List.map cI a1))),(2,.i a2),(3,(.ptr (H.length+0) 0)),(7,.i s1.1),(8,.i s1.2)]) (fun (q2:Unit) s1=>[(.cells (c_VaTrain a0))]) 1 (fun r e s' H'=>PX 0 [(7,.i r)] (H++[(.cells (c_VaTrain a0))]) e s' H') () ho7 rfl rfl (fun _ _=>rfl) (fun _=>rfl) rfl (fun s1=>(bdc bd_seq (bdc bd_lit (bdc (bd_ptr rfl) (bdc bd_lit (bdc bd_lit bdn)))))) (fun q2 s1 ys1 hs1=>?_) ?_
 ·unfold ref06_Size_L1 at hs1
  refine w_seq<|s0<|qm rfl<|qm rfl<|ow_q (o_lenL (f:=cI) rfl) rfl<|ow_q (b_lss rfl rfl) rfl<|es (ra6 rfl rfl rfl rfl rfl rfl)<|wi hs1 rfl (fun hc3 hs1=>?_) fun hc3 hs1=>?_
  ·refine w_skip<|w_seq<|w_block<|s0<|oB hs1 fun x4 hx4 hs1=>qm rfl<|qm rfl<|ow_q (o_idxS (f:=cI) rfl rfl hx4) rfl<|ow_q (o_loadC rfl rfl) rfl<|qm rfl<|ow_q (b_eql rfl rfl) rfl<|es (ra6 rfl rfl rfl rfl rfl rfl)<|wi hs1 rfl (fun hc5 hs1=>?_) fun hc5 hs1=>?_
   ·refine r0<|oB hs1 fun x6 hx6 hs1=>qm rfl<|ow_q (o_faP rfl) rfl<|ow_q (o_load rfl rfl rfl) rfl<|qm rfl<|ow_q (o_idxS (f:=c_VaCrate) rfl rfl hx6) rfl<|ow_q (o_faC (ds:=(List.drop 1 (c_VaCrate x6))) rfl rfl) rfl<|ow_q (o_loadC rfl rfl) rfl<|ow_q (b_add rfl rfl) rfl<|qm rfl<|en (ra5 rfl rfl rfl rfl rfl)<|r0<|qm rfl<|ow_q (b_add rfl rfl) rfl<|qm rfl<|en (ra5 rfl rfl rfl rfl rfl) ?_
    cases hs1
    exact lnT () rfl (su5 rfl rfl rfl rfl rfl)
   ·refine w_skip<|r0<|qm rfl<|ow_q (b_add rfl rfl) rfl<|qm rfl<|en (ra5 rfl rfl rfl rfl rfl) ?_
    cases hs1
    exact lnT () rfl (su5 rfl rfl rfl rfl rfl)
  ·refine w_exit ?_
   obtain rfl:=os hs1
   exact lx rfl px (su1 rfl)
 ·rintro e s' H' - ⟨rfl,rfl,rfl⟩
  refine s0<|qm rfl<|qm rfl<|es (ra1 rfl)<|w_ret ?_
  obtain rfl:=os h
  exact retq trivial (rs_tmp rfl rs_nil) (ov_cons rfl ov_nil) (bdL_cons bd_lit bdL_nil)
def ref06_Allowed_L1 (a0:VaTrain) (a1:(List Int)) (s1:Int):Option (Int⊕(Bool⊕Unit)) :=
 if (decide (s1 < (List.length a0.Vans:Int)))=true then
  (ref06_Size a0 a1 s1).bind fun x4 =>
  (idx a0.Vans s1).bind fun x5 =>
  if (decide (x4 > x5.Room))=true then
  some (.inr (.inl false))
  else
  some (.inl (w64 (s1+1)))
 else
  some (.inr (.inr ()))
def ref06_Allowed_L2 (a0:VaTrain) (a1:(List Int)) (s8:Int):Option (Int⊕(Bool⊕Unit)) :=
 if (decide (s8 < (List.length a0.Apart:Int)))=true then
  (idx a0.Apart s8).bind fun x11 =>
  (if (decide (x11.B < (List.length a1:Int)))=true then
  (idx a1 x11.A).bind fun x13 =>
  (idx a1 x11.B).bind fun x14 =>
  some (x13 == x14)
  else
  some false).bind fun x15 =>
  (if x15=true then
  (idx a1 x11.A).bind fun x17 =>
  some (x17 != (-1))
  else
  some false).bind fun x18 =>
  if x18=true then
  some (.inr (.inl false))
  else
  some (.inl (w64 (s8+1)))
 else
  some (.inr (.inr ()))
def ref06_Allowed (a0:VaTrain) (a1:(List Int)):Option Bool :=
 (loop (ref06_Allowed_L1 a0 a1) 0).bind fun (o7:(Bool⊕Unit)) =>
 match o7 with
 | (.inl vo7_0) =>
  some vo7_0
 | (.inr vo7_1) =>
  (loop (ref06_Allowed_L2 a0 a1) 0).bind fun (o20:(Bool⊕Unit)) =>
  match o20 with
  | (.inl vo20_0) =>
  some vo20_0
  | (.inr vo20_1) =>
  some true
theorem ok_ref06_Allowed {c:Sc} {H:AHeap} {a0:VaTrain} {a1:(List Int)} {r:Bool} (h:ref06_Allowed a0 a1=some r) :
  CallE tab c H (.fn (.func 87) [] []) [(.agg (c_VaTrain a0)),(.seq 1 (List.map cI a1))] [.b r]:= by
 unfold ref06_Allowed at h
 refine cE rfl rfl<|sg 0 rfl<|ow_q (o_box (cs:=c_VaTrain a0) rfl rfl rfl) rfl<|qm rfl<|es (ra2 rfl rfl)<|w_seq<|s0<|qm rfl<|es (ra3 rfl rfl rfl)<|w_block<|oB h fun o7 ho7 h=>wl (fun s1=>[(1,(.seq 1 (List.map cI a1))),(2,(.ptr (H.length+0) 0)),(5,.i s1)]) (fun (q2:Unit) s1=>[(.cells (c_VaTrain a0))]) 1 (fun r e s' H'=>(match r with | (.inl v)=>e = .ret∧RetQ H [.tmp 4] [.b v] e s' H' | (.inr v)=>PX 0 [(1,(.seq 1 (List.map cI a1))),(2,(.ptr (H.length+0) 0))] (H++[(.cells (c_VaTrain a0))]) e s' H':Prop)) () ho7 rfl rfl (fun _ _=>rfl) (fun _=>rfl) rfl (fun s1=>(bdc bd_seq (bdc (bd_ptr rfl) (bdc bd_lit bdn)))) (fun q2 s1 ys1 hs1=>?_) ?_
 ·unfold ref06_Allowed_L1 at hs1
  refine w_seq<|s0<|qm rfl<|ow_q (o_faP rfl) rfl<|ow_q (o_load rfl rfl rfl) rfl<|ow_q (o_lenL (f:=c_VaVan) rfl) rfl<|ow_q (b_lss rfl rfl) rfl<|es (ra4 rfl rfl rfl rfl)<|wi hs1 rfl (fun hc3 hs1=>?_) fun hc3 hs1=>?_
  ·refine w_skip<|w_seq<|w_block<|s0<|oB hs1 fun x4 hx4 hs1=>oB hs1 fun x5 hx5 hs1=>ow_q (o_loadW rfl rfl rfl) rfl<|qm rfl<|qm rfl<|ow_callP (rs:=[.i x4]) rfl rfl (pa_cons rfl (pa_cons rfl (pa_cons rfl pa_nil))) (fa_cons (fa_agg rfl) (fa_cons rfl (fa_cons rfl fa_nil))) ((ok_ref06_Size hx4).frz)<|ow_q (o_faP rfl) rfl<|ow_q (o_load rfl rfl rfl) rfl<|qm rfl<|ow_q (o_idxS (f:=c_VaVan) rfl rfl hx5) rfl<|ow_q (o_faC (ds:=(List.drop 1 (c_VaVan x5))) rfl rfl) rfl<|ow_q (o_loadC rfl rfl) rfl<|ow_q (b_gtr rfl rfl) rfl<|es (ra4 rfl rfl rfl rfl)<|wi hs1 rfl (fun hc6 hs1=>?_) fun hc6 hs1=>?_
   ·refine s0<|qm rfl<|es (ra1 rfl)<|w_ret ?_
    obtain rfl:=os hs1
    exact lx rfl (And.intro rfl (retq trivial (rs_tmp rfl rs_nil) (ov_cons rfl ov_nil) (bdL_cons bd_lit bdL_nil))) (Sub.refl _)
   ·refine w_skip<|r0<|qm rfl<|ow_q (b_add rfl rfl) rfl<|qm rfl<|en (ra3 rfl rfl rfl) ?_
    cases hs1
    exact lnT () rfl (su3 rfl rfl rfl)
  ·refine w_exit ?_
   obtain rfl:=os hs1
   exact lx rfl px (su2 rfl rfl)
 ·rcases o7 with vo7_0 | vo7_1
  ·rintro e s' H' - ⟨rfl,hret⟩
   cases h
   exact hret
  ·rintro e s' H' - ⟨rfl,rfl,rfl⟩
   refine w_seq<|s0<|qm rfl<|es (ra3 rfl rfl rfl)<|w_block<|oB h fun o20 ho20 h=>wl (fun s8=>[(1,(.seq 1 (List.map cI a1))),(2,(.ptr (H.length+0) 0)),(6,.i s8)]) (fun (q9:Unit) s8=>[(.cells (c_VaTrain a0))]) 1 (fun r e s' H'=>(match r with | (.inl v)=>e = .ret∧RetQ H [.tmp 4] [.b v] e s' H' | (.inr v)=>PX 2 [] (H++[(.cells (c_VaTrain a0))]) e s' H':Prop)) () ho20 rfl rfl (fun _ _=>rfl) (fun _=>rfl) rfl (fun s8=>(bdc bd_seq (bdc (bd_ptr rfl) (bdc bd_lit bdn)))) (fun q9 s8 ys8 hs8=>?_) ?_
   ·unfold ref06_Allowed_L2 at hs8
    refine w_seq<|s0<|qm rfl<|ow_q (o_faP rfl) rfl<|ow_q (o_load rfl rfl rfl) rfl<|ow_q (o_lenL (f:=c_VaPair) rfl) rfl<|ow_q (b_lss rfl rfl) rfl<|es (ra4 rfl rfl rfl rfl)<|wi hs8 rfl (fun hc10 hs8=>?_) fun hc10 hs8=>?_
    ·refine w_skip<|w_seq<|w_block<|sg 1 rfl<|oB hs8 fun x11 hx11 hs8=>ow_q (o_faP rfl) rfl<|ow_q (o_load rfl rfl rfl) rfl<|qm rfl<|ow_q (o_idxS (f:=c_VaPair) rfl rfl hx11) rfl<|ow_q (o_loadCW rfl rfl) rfl<|ow_q o_alloc rfl<|ow_r (o_store (ds:=(c_VaPair x11)) rfl rfl rfl rfl (okL_plain rfl) rfl) rfl<|es (ra4 rfl rfl rfl rfl)<|s0<|oB hs8 fun x15 hx15 hs8=>oB hs8 fun x18 hx18 hs8=>ow_q (o_faP rfl) rfl<|ow_q (o_load rfl rfl rfl) rfl<|qm rfl<|ow_q (o_lenL (f:=cI) rfl) rfl<|ow_q (b_lss rfl rfl) rfl<|qm rfl<|gp 12 55 (.b x15) 43 rfl rfl (fun hg12=>?_) (fun hg12=>?_) ?_
     ·refine oB (bt hx15 hg12) fun x13 hx13 hx15=>oB hx15 fun x14 hx14 hx15=>?_
      obtain rfl:=os hx15
      exact gT rfl hg12<|qm rfl<|gT rfl hg12<|ow_q (o_faP rfl) rfl<|gT rfl hg12<|ow_q (o_load rfl rfl rfl) rfl<|gT rfl hg12<|ow_q (o_idxS (f:=cI) rfl rfl hx13) rfl<|gT rfl hg12<|ow_q (o_loadC rfl rfl) rfl<|gT rfl hg12<|qm rfl<|gT rfl hg12<|ow_q (o_faP rfl) rfl<|gT rfl hg12<|ow_q (o_load rfl rfl rfl) rfl<|gT rfl hg12<|ow_q (o_idxS (f:=cI) rfl rfl hx14) rfl<|gT rfl hg12<|ow_q (o_loadC rfl rfl) rfl<|gT rfl hg12<|ow_q (b_eql rfl rfl) rfl<|ow_q (o_pickT rfl hg12 rfl) rfl<|ge 12 rfl rfl rfl
     ·obtain rfl:=os (bf hx15 hg12)
      exact nT rfl hg12 rfl<|nT rfl hg12 rfl<|nT rfl hg12 rfl<|nT rfl hg12 rfl<|nT rfl hg12 rfl<|nT rfl hg12 rfl<|nT rfl hg12 rfl<|nT rfl hg12 rfl<|nT rfl hg12 rfl<|nT rfl hg12 rfl<|nT rfl hg12 rfl<|ow_q (o_pickF rfl hg12 rfl) rfl<|ge 12 rfl rfl rfl
     refine qm rfl<|gp 7 63 (.b x18) 56 rfl rfl (fun hg16=>?_) (fun hg16=>?_) ?_
     ·refine oB (bt hx18 hg16) fun x17 hx17 hx18=>?_
      obtain rfl:=os hx18
      exact gT rfl hg16<|qm rfl<|gT rfl hg16<|ow_q (o_faP rfl) rfl<|gT rfl hg16<|ow_q (o_load rfl rfl rfl) rfl<|gT rfl hg16<|ow_q (o_idxS (f:=cI) rfl rfl hx17) rfl<|gT rfl hg16<|ow_q (o_loadC rfl rfl) rfl<|gT rfl hg16<|ow_q (b_neq rfl rfl) rfl<|ow_q (o_pickT rfl hg16 rfl) rfl<|ge 7 rfl rfl rfl
     ·obtain rfl:=os (bf hx18 hg16)
      exact nT rfl hg16 rfl<|nT rfl hg16 rfl<|nT rfl hg16 rfl<|nT rfl hg16 rfl<|nT rfl hg16 rfl<|nT rfl hg16 rfl<|ow_q (o_pickF rfl hg16 rfl) rfl<|ge 7 rfl rfl rfl
     refine es (ra4 rfl rfl rfl rfl)<|wi hs8 rfl (fun hc19 hs8=>?_) fun hc19 hs8=>?_
     ·refine s0<|qm rfl<|es (ra1 rfl)<|w_ret ?_
      obtain rfl:=os hs8
      exact lx rfl (And.intro rfl (retq trivial (rs_tmp rfl rs_nil) (ov_cons rfl ov_nil) (bdL_cons bd_lit bdL_nil))) (Sub.refl _)
     ·refine w_skip<|r0<|qm rfl<|ow_q (b_add rfl rfl) rfl<|qm rfl<|en (ra3 rfl rfl rfl) ?_
      cases hs8
      exact lnT () rfl (su3 rfl rfl rfl)
    ·refine w_exit ?_
     obtain rfl:=os hs8
     exact lx rfl px (.nil _)
   ·rcases o20 with vo20_0 | vo20_1
    ·rintro e s' H' - ⟨rfl,hret⟩
     cases h
     exact hret
    ·rintro e s' H' - ⟨rfl,rfl,rfl⟩
     refine s0<|qm rfl<|es (ra1 rfl)<|w_ret ?_
     obtain rfl:=os h
     exact retq trivial (rs_tmp rfl rs_nil) (ov_cons rfl ov_nil) (bdL_cons bd_lit bdL_nil)
def slices_IndexFunc_int_int_L1 (a0:(List Int)) (g1:(Int→Option Bool)) (s1:Int):Option (Int⊕(Int⊕Unit)) :=
 if (decide (s1 < (List.length a0:Int)))=true then
  (idx a0 s1).bind fun x4 =>
  (g1 x4).bind fun x5 =>
  if x5=true then
  some (.inr (.inl s1))
  else
  some (.inl (w64 (s1+1)))
 else
  some (.inr (.inr ()))
def slices_IndexFunc_int_int (a0:(List Int)) (g1:(Int→Option Bool)):Option Int :=
 (loop (slices_IndexFunc_int_int_L1 a0 g1) 0).bind fun (o7:(Int⊕Unit)) =>
 match o7 with
 | (.inl vo7_0) =>
  some vo7_0
 | (.inr vo7_1) =>
  some (-1)
theorem ok_slices_IndexFunc_int_int {c:Sc} {H:AHeap} {a0:(List Int)} {g1:Int→Option Bool} {g1_i:Nat} {g1_f g1_c:List AV} (g1_h:Impl tab H g1_i g1_f g1_c g1 (fun y=>[.i y]) (fun y=>[.b y])) {r:Int} (h:slices_IndexFunc_int_int a0 g1=some r) :
  CallE tab c H (.fn (.func 106) [] []) [(.seq 1 (List.map cI a0)),.fn (.func g1_i) g1_f g1_c] [.i r]:= by
 unfold slices_IndexFunc_int_int at h
 refine cE rfl rfl<|s0<|qm rfl<|es (ra2 rfl rfl)<|w_seq<|s0<|qm rfl<|ow_q (o_lenL (f:=cI) rfl) rfl<|qm rfl<|es (ra4 rfl rfl rfl rfl)<|w_block<|oB h fun o7 ho7 h=>wl (fun s1=>[(0,(.seq 1 (List.map cI a0))),(1,(.fn (.func g1_i) g1_f g1_c)),(7,(.i (List.length a0:Int))),(8,.i s1)]) (fun (q2:Unit) s1=>[]) 0 (fun r e s' H'=>(match r with | (.inl v)=>e = .ret∧RetQ H [.tmp 4] [.i v] e s' H' | (.inr v)=>PX 0 [] (H++[]) e s' H':Prop)) () ho7 rfl rfl (fun _ _=>rfl) (fun _=>rfl) rfl (fun s1=>(bdc bd_seq (bdc (bd_fn g1_h.1) (bdc bd_lit (bdc bd_lit bdn))))) (fun q2 s1 ys1 hs1=>?_) ?_
 ·unfold slices_IndexFunc_int_int_L1 at hs1
  refine s0<|ow_q (b_lss rfl rfl) rfl<|es (ra5 rfl rfl rfl rfl rfl)<|w_seq<|wi hs1 rfl (fun hc3 hs1=>?_) fun hc3 hs1=>?_
  ·refine w_skip<|w_seq<|w_block<|s0<|qm rfl<|qm rfl<|es (ra5 rfl rfl rfl rfl rfl)<|s0<|oB hs1 fun x4 hx4 hs1=>oB hs1 fun x5 hx5 hs1=>qm rfl<|qm rfl<|qm rfl<|ow_q (o_idxS (f:=cI) rfl rfl hx4) rfl<|ow_q (o_loadC rfl rfl) rfl<|ow_call (rs:=[.b x5]) rfl rfl (fa_cons rfl fa_nil) (Impl.call g1_h hx5 _)<|es (ra6 rfl rfl rfl rfl rfl rfl)<|wi hs1 rfl (fun hc6 hs1=>?_) fun hc6 hs1=>?_
   ·refine s0<|qm rfl<|qm rfl<|es (ra1 rfl)<|w_ret ?_
    obtain rfl:=os hs1
    exact lx rfl (And.intro rfl (retq trivial (rs_tmp rfl rs_nil) (ov_cons rfl ov_nil) (bdL_cons bd_lit bdL_nil))) (Sub.refl _)
   ·refine w_skip<|r0<|ow_q (b_add rfl rfl) rfl<|qm rfl<|en (ra4 rfl rfl rfl rfl) ?_
    cases hs1
    exact lnT () rfl (su4 rfl rfl rfl rfl)
  ·refine w_exit ?_
   obtain rfl:=os hs1
   exact lx rfl px (.nil _)
 ·rcases o7 with vo7_0 | vo7_1
  ·rintro e s' H' - ⟨rfl,hret⟩
   cases h
   exact hret
  ·rintro e s' H' - ⟨rfl,rfl,rfl⟩
   refine s0<|qm rfl<|es (ra1 rfl)<|w_ret ?_
   obtain rfl:=os h
   exact retq trivial (rs_tmp rfl rs_nil) (ov_cons rfl ov_nil) (bdL_cons bd_lit bdL_nil)
def slices_ContainsFunc_int_int (a0:(List Int)) (g1:(Int→Option Bool)):Option Bool :=
 (slices_IndexFunc_int_int a0 g1).bind fun x1 =>
 some (decide (x1 ≥ 0))
theorem ok_slices_ContainsFunc_int_int {c:Sc} {H:AHeap} {a0:(List Int)} {g1:Int→Option Bool} {g1_i:Nat} {g1_f g1_c:List AV} (g1_h:Impl tab H g1_i g1_f g1_c g1 (fun y=>[.i y]) (fun y=>[.b y])) {r:Bool} (h:slices_ContainsFunc_int_int a0 g1=some r) :
  CallE tab c H (.fn (.func 90) [] []) [(.seq 1 (List.map cI a0)),.fn (.func g1_i) g1_f g1_c] [.b r]:= by
 unfold slices_ContainsFunc_int_int at h
 refine cE rfl rfl<|s0<|qm rfl<|es (ra2 rfl rfl)<|s0<|oB h fun x1 hx1 h=>qm rfl<|qm rfl<|ow_call (rs:=[.i x1]) rfl rfl (fa_cons rfl (fa_cons rfl fa_nil)) ((ok_slices_IndexFunc_int_int (Impl.app g1_h _) hx1).frz)<|ow_q (b_geq rfl rfl) rfl<|qm rfl<|es (ra1 rfl)<|w_ret ?_
 obtain rfl:=os h
 exact retq trivial (rs_tmp rfl rs_nil) (ov_cons rfl ov_nil) (bdL_cons bd_lit bdL_nil)
def van_outside_1 (a0:Int) (a1:Int) (a2:Int):Option Bool :=
 some ((decide (a0 < a1)) || (decide (a0 > a2)))
theorem ok_van_outside_1 {c:Sc} {H:AHeap} {a0:Int} {a1:Int} {b1:Nat} (hb1:hcells H b1=some (cI a1)) {a2:Int} {b2:Nat} (hb2:hcells H b2=some (cI a2)) {r:Bool} (h:van_outside_1 a0 a1 a2=some r) :
  CallE tab c H (.fn (.func 91) [] []) [.i a0,.ptr b1 0,.ptr b2 0] [.b r]:= by
 unfold van_outside_1 at h
 refine cE rfl rfl<|s0<|qm rfl<|es (ra3 rfl rfl rfl)<|s0<|qm rfl<|ow_q (o_loadB rfl hb1 rfl) rfl<|ow_q (b_lss rfl rfl) rfl<|qm rfl<|gp 4 12 (.b ((decide (a0 < a1)) || (decide (a0 > a2)))) 8 rfl rfl (fun hg1=>?_) (fun hg1=>?_) ?_
 ·exact nF rfl hg1 rfl<|nF rfl hg1 rfl<|nF rfl hg1 rfl<|ow_q (o_pickT rfl hg1 rfl) rfl<|ge 4 (by rw [hg1]; rfl) rfl rfl
 ·exact gF rfl hg1<|qm rfl<|gF rfl hg1<|ow_q (o_loadB rfl hb2 rfl) rfl<|gF rfl hg1<|ow_q (b_gtr rfl rfl) rfl<|ow_q (o_pickF rfl hg1 rfl) rfl<|ge 4 (by rw [hg1]; rfl) rfl rfl
 refine qm rfl<|es (ra1 rfl)<|w_ret ?_
 obtain rfl:=os h
 exact retq trivial (rs_tmp rfl rs_nil) (ov_cons rfl ov_nil) (bdL_cons bd_lit bdL_nil)
def van_outside (a0:Int) (a1:Int) (a2:(List Int)):Option Bool :=
 (slices_ContainsFunc_int_int a2 (fun (y:Int)=>van_outside_1 y a0 a1)).bind fun x1 =>
 some x1
theorem ok_van_outside {c:Sc} {H:AHeap} {a0:Int} {a1:Int} {a2:(List Int)} {r:Bool} (h:van_outside a0 a1 a2=some r) :
  CallE tab c H (.fn (.func 56) [] []) [.i a0,.i a1,(.seq 1 (List.map cI a2))] [.b r]:= by
 unfold van_outside at h
 refine cE rfl rfl<|sg 0 rfl<|ow_q (o_box (cs:=cI a0) rfl rfl rfl) rfl<|ow_q (o_box (cs:=cI a1) rfl rfl rfl) rfl<|qm rfl<|es (ra3 rfl rfl rfl)<|s0<|oB h fun x1 hx1 h=>qm rfl<|ow_q (o_mkfn rfl rfl) rfl<|ow_call (rs:=[.b x1]) rfl rfl (fa_cons rfl (fa_cons rfl fa_nil)) ((ok_slices_ContainsFunc_int_int (show Impl _ _ 91 [] [(.ptr (H.length+0) 0),(.ptr (H.length+1) 0)] (fun (y:Int)=>van_outside_1 y a0 a1) (fun (y:Int)=>[.i y]) (fun (y:Bool)=>[.b y]) from ⟨⟨bdL_nil,(by rw [List.length_append]; exact (bdL_cons (bd_ptr rfl) (bdL_cons (bd_ptr rfl) bdL_nil)))⟩,fun H' hle hag c y r hr=>(callE_fn2 (ok_van_outside_1 (hag _ _ (hcells_loc rfl)) (hag _ _ (hcells_loc rfl)) hr)).frz⟩) hx1).frz)<|qm rfl<|es (ra1 rfl)<|w_ret ?_
 obtain rfl:=os h
 exact retq trivial (rs_tmp rfl rs_nil) (ov_cons rfl ov_nil) (bdL_cons bd_lit bdL_nil)
def mould_Name_L1 (a0:ByteArray) (s1:Nat):Option (Nat⊕(Bool⊕Nat)) :=
 if (decide (s1 < ByteArray.size a0))=true then
  if ((!((decide (97≤((Utf8.decode a0 s1).1:Int))) && (decide (((Utf8.decode a0 s1).1:Int)≤122)))) && (((s1:Int) == 0) || ((((Utf8.decode a0 s1).1:Int) != 46) && ((decide (((Utf8.decode a0 s1).1:Int) < 48)) || (decide (((Utf8.decode a0 s1).1:Int) > 57))))))=true then
  some (.inr (.inl false))
  else
  some (.inl (s1+(Utf8.decode a0 s1).2))
 else
  some (.inr (.inr s1))
def mould_Name (a0:ByteArray):Option Bool :=
 (loop (mould_Name_L1 a0) (0:Nat)).bind fun (o10:(Bool⊕Nat)) =>
 match o10 with
 | (.inl vo10_0) =>
  some vo10_0
 | (.inr vo10_1) =>
  some ((!eqS a0 (ByteArray.mk #[])) && (decide ((ByteArray.size a0:Int)≤16)))
theorem ok_mould_Name {c:Sc} {H:AHeap} {a0:ByteArray} {r:Bool} (h:mould_Name a0=some r) :
  CallE tab c H (.fn (.func 107) [] []) [.s a0] [.b r]:= by
 unfold mould_Name at h
 refine cE rfl rfl<|s0<|qm rfl<|es (ra1 rfl)<|w_seq<|sg 0 rfl<|qm rfl<|ow_q (o_range rfl) rfl<|es (ra2 rfl rfl)<|w_block<|oB h fun o10 ho10 h=>wl (fun s1=>[(0,.s a0),(7,(.itr (H.length+0)))]) (fun (q2:Unit) s1=>[.iter a0 s1]) 1 (fun r e s' H'=>(match r with | (.inl v)=>e = .ret∧RetQ H [.tmp 2] [.b v] e s' H' | (.inr v)=>PX 0 [(0,.s a0)] (H++[.iter a0 v]) e s' H':Prop)) () ho10 rfl rfl (fun _ _=>rfl) (fun _=>rfl) rfl (fun s1=>(bdc bd_lit (bdc (bd_itr rfl) bdn))) (fun q2 s1 ys1 hs1=>?_) ?_
 ·unfold mould_Name_L1 at hs1
  by_cases hc3:(decide (s1 < ByteArray.size a0))=true
  ·rw [if_pos hc3] at hs1
   refine s0<|ow_w (o_nextT rfl rfl (of_decide_eq_true hc3)) rfl<|ow_q (o_extract rfl rfl) rfl<|es (ra4 rfl rfl rfl rfl)<|w_seq<|w_condT rfl rfl<|w_skip<|w_block<|s0<|ow_q (o_extract rfl rfl) rfl<|ow_q (o_extract rfl rfl) rfl<|qm rfl<|qm rfl<|es (ra4 rfl rfl rfl rfl)<|s0<|qm rfl<|ow_q (b_leq rfl rfl) rfl<|qm rfl<|gp 3 17 (.b ((decide (97≤((Utf8.decode a0 s1).1:Int))) && (decide (((Utf8.decode a0 s1).1:Int)≤122)))) 14 rfl rfl (fun hg4=>?_) (fun hg4=>?_) ?_
   ·exact gT rfl hg4<|qm rfl<|gT rfl hg4<|ow_q (b_leq rfl rfl) rfl<|ow_q (o_pickT rfl hg4 rfl) rfl<|ge 3 (by rw [hg4]; rfl) rfl rfl
   ·exact nT rfl hg4 rfl<|nT rfl hg4 rfl<|ow_q (o_pickF rfl hg4 rfl) rfl<|ge 3 (by rw [hg4]; rfl) rfl rfl
   refine qm rfl<|es (ra5 rfl rfl rfl rfl rfl)<|s0<|qm rfl<|ow_q (u_not rfl) rfl<|qm rfl<|gp 15 35 (.b ((!((decide (97≤((Utf8.decode a0 s1).1:Int))) && (decide (((Utf8.decode a0 s1).1:Int)≤122)))) && (((s1:Int) == 0) || ((((Utf8.decode a0 s1).1:Int) != 46) && ((decide (((Utf8.decode a0 s1).1:Int) < 48)) || (decide (((Utf8.decode a0 s1).1:Int) > 57))))))) 20 rfl rfl (fun hg5=>?_) (fun hg5=>?_) ?_
   ·refine gT rfl hg5<|qm rfl<|gT rfl hg5<|ow_q (b_eql rfl rfl) rfl<|gT rfl hg5<|qm rfl<|gq 11 34 (.b (((s1:Int) == 0) || ((((Utf8.decode a0 s1).1:Int) != 46) && ((decide (((Utf8.decode a0 s1).1:Int) < 48)) || (decide (((Utf8.decode a0 s1).1:Int) > 57)))))) 23 rfl rfl (fun hg6=>?_) (fun hg6=>?_) ?_
    ·exact nF rfl hg6 rfl<|nF rfl hg6 rfl<|nF rfl hg6 rfl<|nX rfl rfl<|nX rfl rfl<|nX rfl rfl<|nX rfl rfl<|nX rfl rfl<|nX rfl rfl<|nF rfl hg6 rfl<|gT rfl hg5<|ow_q (o_pickT rfl hg6 rfl) rfl<|ge 11 (by rw [hg6]; rfl) rfl rfl
    ·refine gF rfl hg6<|qm rfl<|gF rfl hg6<|ow_q (b_neq rfl rfl) rfl<|gF rfl hg6<|qm rfl<|gq 7 33 (.b ((((Utf8.decode a0 s1).1:Int) != 46) && ((decide (((Utf8.decode a0 s1).1:Int) < 48)) || (decide (((Utf8.decode a0 s1).1:Int) > 57))))) 26 rfl rfl (fun hg7=>?_) (fun hg7=>?_) ?_
     ·refine gT rfl hg7<|qm rfl<|gT rfl hg7<|ow_q (b_lss rfl rfl) rfl<|gT rfl hg7<|qm rfl<|gq 3 32 (.b ((decide (((Utf8.decode a0 s1).1:Int) < 48)) || (decide (((Utf8.decode a0 s1).1:Int) > 57)))) 29 rfl rfl (fun hg8=>?_) (fun hg8=>?_) ?_
      ·exact nF rfl hg8 rfl<|nF rfl hg8 rfl<|gT rfl hg7<|ow_q (o_pickT rfl hg8 rfl) rfl<|ge 3 (by rw [hg8]; rfl) rfl rfl
      ·exact gF rfl hg8<|qm rfl<|gF rfl hg8<|ow_q (b_gtr rfl rfl) rfl<|gT rfl hg7<|ow_q (o_pickF rfl hg8 rfl) rfl<|ge 3 (by rw [hg8]; rfl) rfl rfl
      exact gF rfl hg6<|ow_q (o_pickT rfl hg7 rfl) rfl<|ge 5 (by rw [hg7]; rfl) rfl rfl
     ·exact nT rfl hg7 rfl<|nT rfl hg7 rfl<|nT rfl hg7 rfl<|nX rfl rfl<|nX rfl rfl<|nT rfl hg7 rfl<|gF rfl hg6<|ow_q (o_pickF rfl hg7 rfl) rfl<|ge 7 (by rw [hg7]; rfl) rfl rfl
     exact gT rfl hg5<|ow_q (o_pickF rfl hg6 rfl) rfl<|ge 5 (by rw [hg6]; rfl) rfl rfl
    exact ow_q (o_pickT rfl hg5 rfl) rfl<|ge 5 (by rw [hg5]; rfl) rfl rfl
   ·exact nT rfl hg5 rfl<|nT rfl hg5 rfl<|nT rfl hg5 rfl<|nX rfl rfl<|nX rfl rfl<|nX rfl rfl<|nX rfl rfl<|nX rfl rfl<|nX rfl rfl<|nX rfl rfl<|nX rfl rfl<|nX rfl rfl<|nX rfl rfl<|nT rfl hg5 rfl<|ow_q (o_pickF rfl hg5 rfl) rfl<|ge 15 (by rw [hg5]; rfl) rfl rfl
   refine es (ra3 rfl rfl rfl)<|wi hs1 rfl (fun hc9 hs1=>?_) fun hc9 hs1=>?_
   ·refine s0<|qm rfl<|es (ra1 rfl)<|w_ret ?_
    obtain rfl:=os hs1
    exact lx rfl (And.intro rfl (retq trivial (rs_tmp rfl rs_nil) (ov_cons rfl ov_nil) (bdL_cons bd_lit bdL_nil))) (Sub.refl _)
   ·refine w_skip ?_
    cases hs1
    exact lnT () rfl (su2 rfl rfl)
  ·rw [if_neg hc3] at hs1
   refine s0<|ow_w (o_nextF rfl rfl (fun hn=>hc3 (decide_eq_true hn))) rfl<|ow_q (o_extract rfl rfl) rfl<|es (ra4 rfl rfl rfl rfl)<|w_seq<|w_condF rfl rfl<|w_exit ?_
   obtain rfl:=os hs1
   exact lx rfl px (su1 rfl)
 ·rcases o10 with vo10_0 | vo10_1
  ·rintro e s' H' - ⟨rfl,hret⟩
   cases h
   exact hret
  ·rintro e s' H' - ⟨rfl,rfl,rfl⟩
   refine s0<|qm rfl<|ow_q (b_sne rfl rfl) rfl<|qm rfl<|gp 4 42 (.b ((!eqS a0 (ByteArray.mk #[])) && (decide ((ByteArray.size a0:Int)≤16)))) 38 rfl rfl (fun hg11=>?_) (fun hg11=>?_) ?_
   ·exact gT rfl hg11<|qm rfl<|gT rfl hg11<|ow_q (o_lenS rfl) rfl<|gT rfl hg11<|ow_q (b_leq rfl rfl) rfl<|ow_q (o_pickT rfl hg11 rfl) rfl<|ge 4 (by rw [hg11]; rfl) rfl rfl
   ·exact nT rfl hg11 rfl<|nT rfl hg11 rfl<|nT rfl hg11 rfl<|ow_q (o_pickF rfl hg11 rfl) rfl<|ge 4 (by rw [hg11]; rfl) rfl rfl
   refine qm rfl<|es (ra1 rfl)<|w_ret ?_
   obtain rfl:=os h
   exact retq trivial (rs_tmp rfl rs_nil) (ov_cons rfl ov_nil) (bdL_cons bd_lit bdL_nil)
def slices_IndexFunc_api_VaCrate_api_VaCrate_L1 (a0:(List VaCrate)) (g1:(VaCrate→Option Bool)) (s1:Int):Option (Int⊕(Int⊕Unit)) :=
 if (decide (s1 < (List.length a0:Int)))=true then
  (idx a0 s1).bind fun x4 =>
  (g1 x4).bind fun x5 =>
  if x5=true then
  some (.inr (.inl s1))
  else
  some (.inl (w64 (s1+1)))
 else
  some (.inr (.inr ()))
def slices_IndexFunc_api_VaCrate_api_VaCrate (a0:(List VaCrate)) (g1:(VaCrate→Option Bool)):Option Int :=
 (loop (slices_IndexFunc_api_VaCrate_api_VaCrate_L1 a0 g1) 0).bind fun (o7:(Int⊕Unit)) =>
 match o7 with
 | (.inl vo7_0) =>
  some vo7_0
 | (.inr vo7_1) =>
  some (-1)
theorem ok_slices_IndexFunc_api_VaCrate_api_VaCrate {c:Sc} {H:AHeap} {a0:(List VaCrate)} {g1:VaCrate→Option Bool} {g1_i:Nat} {g1_f g1_c:List AV} (g1_h:Impl tab H g1_i g1_f g1_c g1 (fun y=>[(.agg (c_VaCrate y))]) (fun y=>[.b y])) {r:Int} (h:slices_IndexFunc_api_VaCrate_api_VaCrate a0 g1=some r) :
  CallE tab c H (.fn (.func 118) [] []) [(.seq 4 (List.map c_VaCrate a0)),.fn (.func g1_i) g1_f g1_c] [.i r]:= by
 unfold slices_IndexFunc_api_VaCrate_api_VaCrate at h
 refine cE rfl rfl<|s0<|qm rfl<|es (ra2 rfl rfl)<|w_seq<|s0<|qm rfl<|ow_q (o_lenL (f:=c_VaCrate) rfl) rfl<|qm rfl<|es (ra4 rfl rfl rfl rfl)<|w_block<|oB h fun o7 ho7 h=>wl (fun s1=>[(0,(.seq 4 (List.map c_VaCrate a0))),(1,(.fn (.func g1_i) g1_f g1_c)),(7,(.i (List.length a0:Int))),(8,.i s1)]) (fun (q2:Unit) s1=>[]) 0 (fun r e s' H'=>(match r with | (.inl v)=>e = .ret∧RetQ H [.tmp 4] [.i v] e s' H' | (.inr v)=>PX 0 [] (H++[]) e s' H':Prop)) () ho7 rfl rfl (fun _ _=>rfl) (fun _=>rfl) rfl (fun s1=>(bdc bd_seq (bdc (bd_fn g1_h.1) (bdc bd_lit (bdc bd_lit bdn))))) (fun q2 s1 ys1 hs1=>?_) ?_
 ·unfold slices_IndexFunc_api_VaCrate_api_VaCrate_L1 at hs1
  refine s0<|ow_q (b_lss rfl rfl) rfl<|es (ra5 rfl rfl rfl rfl rfl)<|w_seq<|wi hs1 rfl (fun hc3 hs1=>?_) fun hc3 hs1=>?_
  ·refine w_skip<|w_seq<|w_block<|s0<|qm rfl<|qm rfl<|es (ra5 rfl rfl rfl rfl rfl)<|s0<|oB hs1 fun x4 hx4 hs1=>oB hs1 fun x5 hx5 hs1=>qm rfl<|qm rfl<|qm rfl<|ow_q (o_idxS (f:=c_VaCrate) rfl rfl hx4) rfl<|ow_q (o_loadCW rfl rfl) rfl<|ow_call (rs:=[.b x5]) rfl rfl (fa_cons (fa_agg rfl) fa_nil) (Impl.call g1_h hx5 _)<|es (ra6 rfl rfl rfl rfl rfl rfl)<|wi hs1 rfl (fun hc6 hs1=>?_) fun hc6 hs1=>?_
   ·refine s0<|qm rfl<|qm rfl<|es (ra1 rfl)<|w_ret ?_
    obtain rfl:=os hs1
    exact lx rfl (And.intro rfl (retq trivial (rs_tmp rfl rs_nil) (ov_cons rfl ov_nil) (bdL_cons bd_lit bdL_nil))) (Sub.refl _)
   ·refine w_skip<|r0<|ow_q (b_add rfl rfl) rfl<|qm rfl<|en (ra4 rfl rfl rfl rfl) ?_
    cases hs1
    exact lnT () rfl (su4 rfl rfl rfl rfl)
  ·refine w_exit ?_
   obtain rfl:=os hs1
   exact lx rfl px (.nil _)
 ·rcases o7 with vo7_0 | vo7_1
  ·rintro e s' H' - ⟨rfl,hret⟩
   cases h
   exact hret
  ·rintro e s' H' - ⟨rfl,rfl,rfl⟩
   refine s0<|qm rfl<|es (ra1 rfl)<|w_ret ?_
   obtain rfl:=os h
   exact retq trivial (rs_tmp rfl rs_nil) (ov_cons rfl ov_nil) (bdL_cons bd_lit bdL_nil)
def slices_ContainsFunc_api_VaCrate_api_VaCrate (a0:(List VaCrate)) (g1:(VaCrate→Option Bool)):Option Bool :=
 (slices_IndexFunc_api_VaCrate_api_VaCrate a0 g1).bind fun x1 =>
 some (decide (x1 ≥ 0))
theorem ok_slices_ContainsFunc_api_VaCrate_api_VaCrate {c:Sc} {H:AHeap} {a0:(List VaCrate)} {g1:VaCrate→Option Bool} {g1_i:Nat} {g1_f g1_c:List AV} (g1_h:Impl tab H g1_i g1_f g1_c g1 (fun y=>[(.agg (c_VaCrate y))]) (fun y=>[.b y])) {r:Bool} (h:slices_ContainsFunc_api_VaCrate_api_VaCrate a0 g1=some r) :
  CallE tab c H (.fn (.func 110) [] []) [(.seq 4 (List.map c_VaCrate a0)),.fn (.func g1_i) g1_f g1_c] [.b r]:= by
 unfold slices_ContainsFunc_api_VaCrate_api_VaCrate at h
 refine cE rfl rfl<|s0<|qm rfl<|es (ra2 rfl rfl)<|s0<|oB h fun x1 hx1 h=>qm rfl<|qm rfl<|ow_call (rs:=[.i x1]) rfl rfl (fa_cons rfl (fa_cons rfl fa_nil)) ((ok_slices_IndexFunc_api_VaCrate_api_VaCrate (Impl.app g1_h _) hx1).frz)<|ow_q (b_geq rfl rfl) rfl<|qm rfl<|es (ra1 rfl)<|w_ret ?_
 obtain rfl:=os h
 exact retq trivial (rs_tmp rfl rs_nil) (ov_cons rfl ov_nil) (bdL_cons bd_lit bdL_nil)
def van_named_api_VaCrate_1 (a0:VaCrate) (g1:(VaCrate→Option ByteArray)) (a2:(List VaCrate)) (a3:Int):Option Bool :=
 (g1 a0).bind fun x1 =>
 (idx a2 a3).bind fun x2 =>
 (g1 x2).bind fun x3 =>
 some (eqS x1 x3)
theorem ok_van_named_api_VaCrate_1 {c:Sc} {H:AHeap} {a0:VaCrate} {g1:VaCrate→Option ByteArray} {g1_i:Nat} {g1_f g1_c:List AV} (g1_h:Impl tab H g1_i g1_f g1_c g1 (fun y=>[(.agg (c_VaCrate y))]) (fun y=>[.s y])) {b1:Nat} (hb1:hcells H b1=some [.fn (.func g1_i) g1_f g1_c]) {a2:(List VaCrate)} {b2:Nat} (hb2:hcells H b2=some ((cL 4 c_VaCrate) a2)) {a3:Int} {b3:Nat} (hb3:hcells H b3=some (cI a3)) {r:Bool} (h:van_named_api_VaCrate_1 a0 g1 a2 a3=some r) :
  CallE tab c H (.fn (.func 111) [] []) [(.agg (c_VaCrate a0)),.ptr b1 0,.ptr b2 0,.ptr b3 0] [.b r]:= by
 unfold van_named_api_VaCrate_1 at h
 refine cE rfl rfl<|sg 0 rfl<|ow_q (o_box (cs:=c_VaCrate a0) rfl rfl rfl) rfl<|qm rfl<|es (ra4 rfl rfl rfl rfl)<|s0<|oB h fun x1 hx1 h=>oB h fun x2 hx2 h=>oB h fun x3 hx3 h=>ow_q (o_loadB (x:=(.fn (.func g1_i) g1_f g1_c)) rfl hb1 rfl) rfl<|ow_q (o_loadW rfl rfl rfl) rfl<|ow_callP (rs:=[.s x1]) rfl rfl (pa_cons rfl pa_nil) (fa_cons (fa_agg rfl) fa_nil) (Impl.callP g1_h hx1 _)<|ow_q (o_loadB (x:=(.fn (.func g1_i) g1_f g1_c)) rfl hb1 rfl) rfl<|ow_q (o_loadB rfl hb2 rfl) rfl<|ow_q (o_loadB rfl hb3 rfl) rfl<|ow_q (o_idxS (f:=c_VaCrate) rfl rfl hx2) rfl<|ow_q (o_loadCW rfl rfl) rfl<|ow_call (rs:=[.s x3]) rfl rfl (fa_cons (fa_agg rfl) fa_nil) (Impl.call g1_h hx3 _)<|ow_q (b_seq rfl rfl) rfl<|qm rfl<|es (ra1 rfl)<|w_ret ?_
 obtain rfl:=os h
 exact retq trivial (rs_tmp rfl rs_nil) (ov_cons rfl ov_nil) (bdL_cons bd_lit bdL_nil)
def van_named_api_VaCrate (a0:(List VaCrate)) (a1:Int) (g2:(VaCrate→Option ByteArray)):Option Int :=
 (idx a0 a1).bind fun x1 =>
 (g2 x1).bind fun x2 =>
 (mould_Name x2).bind fun x3 =>
 if (!x3)=true then
  some 6
 else
  (slc a0 0 a1).bind fun x5 =>
  (slices_ContainsFunc_api_VaCrate_api_VaCrate x5 (fun (y:VaCrate)=>van_named_api_VaCrate_1 y g2 a0 a1)).bind fun x6 =>
  if x6=true then
  some 5
  else
  some 0
theorem ok_van_named_api_VaCrate {c:Sc} {H:AHeap} {a0:(List VaCrate)} {a1:Int} {g2:VaCrate→Option ByteArray} {g2_i:Nat} {g2_f g2_c:List AV} (g2_h:Impl tab H g2_i g2_f g2_c g2 (fun y=>[(.agg (c_VaCrate y))]) (fun y=>[.s y])) {r:Int} (h:van_named_api_VaCrate a0 a1 g2=some r) :
  CallE tab c H (.fn (.func 94) [] []) [(.seq 4 (List.map c_VaCrate a0)),.i a1,.fn (.func g2_i) g2_f g2_c] [.i r]:= by
 unfold van_named_api_VaCrate at h
 refine cE rfl rfl<|sg 0 rfl<|ow_q (o_box (cs:=(cL 4 c_VaCrate) a0) rfl rfl rfl) rfl<|ow_q (o_box (cs:=cI a1) rfl rfl rfl) rfl<|ow_q (o_box (cs:=[(.fn (.func g2_i) g2_f g2_c)]) rfl rfl rfl) rfl<|qm rfl<|es (ra3 rfl rfl rfl)<|w_seq<|w_block<|s0<|oB h fun x1 hx1 h=>oB h fun x2 hx2 h=>oB h fun x3 hx3 h=>ow_q (o_load (x:=(.fn (.func g2_i) g2_f g2_c)) rfl rfl rfl) rfl<|ow_q (o_load rfl rfl rfl) rfl<|ow_q (o_load rfl rfl rfl) rfl<|ow_q (o_idxS (f:=c_VaCrate) rfl rfl hx1) rfl<|ow_q (o_loadCW rfl rfl) rfl<|ow_call (rs:=[.s x2]) rfl rfl (fa_cons (fa_agg rfl) fa_nil) (Impl.call g2_h hx2 _)<|ow_call (rs:=[.b x3]) rfl rfl (fa_cons rfl fa_nil) ((ok_mould_Name hx3).frz)<|ow_q (u_not rfl) rfl<|qm rfl<|es (ra4 rfl rfl rfl rfl)<|wi h rfl (fun hc4 h=>?_) fun hc4 h=>?_
 ·refine s0<|qm rfl<|es (ra1 rfl)<|w_ret ?_
  obtain rfl:=os h
  exact retq trivial (rs_tmp rfl rs_nil) (ov_cons rfl ov_nil) (bdL_cons bd_lit bdL_nil)
 ·refine s0<|oB h fun x5 hx5 h=>oB h fun x6 hx6 h=>ow_q (o_load rfl rfl rfl) rfl<|ow_q (o_load rfl rfl rfl) rfl<|ow_q (o_sliceQ (f:=c_VaCrate) rfl rfl rfl hx5) rfl<|ow_q (o_mkfn rfl rfl) rfl<|ow_call (rs:=[.b x6]) rfl rfl (fa_cons rfl (fa_cons rfl fa_nil)) ((ok_slices_ContainsFunc_api_VaCrate_api_VaCrate (show Impl _ _ 111 [] [(.ptr (H.length + 2) 0),(.ptr (H.length + 0) 0),(.ptr (H.length + 1) 0)] (fun (y:VaCrate)=>van_named_api_VaCrate_1 y g2 a0 a1) (fun (y:VaCrate)=>[(.agg (c_VaCrate y))]) (fun (y:Bool)=>[.b y]) from ⟨⟨bdL_nil,(by rw [List.length_append]; exact (bdL_cons (bd_ptr rfl) (bdL_cons (bd_ptr rfl) (bdL_cons (bd_ptr rfl) bdL_nil))))⟩,fun H' hle hag c y r hr=>(callE_fn2 (ok_van_named_api_VaCrate_1 (Impl.mono (Impl.app g2_h _) hle hag) (hag _ _ (hcells_loc rfl)) (hag _ _ (hcells_loc rfl)) (hag _ _ (hcells_loc rfl)) hr)).frz⟩) hx6).frz)<|qm rfl<|es (ra1 rfl)<|wi h rfl (fun hc7 h=>?_) fun hc7 h=>?_
  ·refine s0<|qm rfl<|es (ra1 rfl)<|w_ret ?_
   obtain rfl:=os h
   exact retq trivial (rs_tmp rfl rs_nil) (ov_cons rfl ov_nil) (bdL_cons bd_lit bdL_nil)
  ·refine w_skip<|s0<|qm rfl<|es (ra1 rfl)<|w_ret ?_
   obtain rfl:=os h
   exact retq trivial (rs_tmp rfl rs_nil) (ov_cons rfl ov_nil) (bdL_cons bd_lit bdL_nil)
def van_train_crate_1 (a0:VaCrate):Option ByteArray :=
 some a0.Name
theorem ok_van_train_crate_1 {c:Sc} {H:AHeap} {a0:VaCrate} {r:ByteArray} (h:van_train_crate_1 a0=some r) :
  CallE tab c H (.fn (.func 95) [] []) [(.agg (c_VaCrate a0))] [.s r]:= by
 unfold van_train_crate_1 at h
 refine cE rfl rfl<|sg 0 rfl<|ow_q (o_box (cs:=c_VaCrate a0) rfl rfl rfl) rfl<|qm rfl<|es (ra1 rfl)<|s0<|ow_q (o_faP rfl) rfl<|ow_q (o_load rfl rfl rfl) rfl<|qm rfl<|es (ra1 rfl)<|w_ret ?_
 obtain rfl:=os h
 exact retq trivial (rs_tmp rfl rs_nil) (ov_cons rfl ov_nil) (bdL_cons bd_lit bdL_nil)
def van_train_crate (a0:van_train) (a1:Int):Option Int :=
 (idx a0.VaTrain.Crates a1).bind fun x1 =>
 (van_named_api_VaCrate a0.VaTrain.Crates a1 (fun (y:VaCrate)=>van_train_crate_1 y)).bind fun x2 =>
 (if (x2 == 0)=true then
  (van_outside 1 9 [x1.Size]).bind fun x4 =>
  (if x4=true then
  some true
  else
  (van_outside 0 (w64 (a0.VaTrain.Stops - 1)) [x1.Stop]).bind fun x6 =>
  some x6).bind fun x7 =>
  (if x7=true then
  some true
  else
  (van_outside 0 5000 [x1.By]).bind fun x9 =>
  some x9).bind fun x10 =>
  some x10
 else
  some false).bind fun x11 =>
 if x11=true then
  some 7
 else
  some x2
theorem ok_van_train_crate {c:Sc} {H:AHeap} {a0:van_train} {m0_5:AV} {b0:Nat} (hb0:hcells H b0=some [(.seq 4 (List.map c_VaVan a0.VaTrain.Vans)),.i a0.VaTrain.Stops,.i a0.VaTrain.Handle,(.seq 4 (List.map c_VaCrate a0.VaTrain.Crates)),(.seq 2 (List.map c_VaPair a0.VaTrain.Apart)),m0_5]) {a1:Int} {r:Int} (h:van_train_crate a0 a1=some r) :
  CallE tab c H (.fn (.func 58) [] []) [.ptr b0 0,.i a1] [.i r]:= by
 unfold van_train_crate at h
 refine cE rfl rfl<|s0<|qm rfl<|es (ra2 rfl rfl)<|sg 0 rfl<|oB h fun x1 hx1 h=>qm rfl<|ow_q (o_nilck rfl rfl) rfl<|ow_q (o_faP rfl) rfl<|ow_q (o_faP rfl) rfl<|ow_q (o_loadB (x:=(.seq 4 (List.map c_VaCrate a0.VaTrain.Crates))) rfl hb0 rfl) rfl<|qm rfl<|ow_q (o_idxS (f:=c_VaCrate) rfl rfl hx1) rfl<|ow_q (o_loadCW rfl rfl) rfl<|ow_q o_alloc rfl<|ow_r (o_store (ds:=(c_VaCrate x1)) rfl rfl rfl rfl (okL_plain rfl) rfl) rfl<|es (ra3 rfl rfl rfl)<|s0<|oB h fun x2 hx2 h=>qm rfl<|ow_q (o_nilck rfl rfl) rfl<|ow_q (o_faP rfl) rfl<|ow_q (o_faP rfl) rfl<|ow_q (o_loadB (x:=(.seq 4 (List.map c_VaCrate a0.VaTrain.Crates))) rfl hb0 rfl) rfl<|qm rfl<|ow_call (rs:=[.i x2]) rfl rfl (fa_cons rfl (fa_cons rfl (fa_cons rfl fa_nil))) ((ok_van_named_api_VaCrate (show Impl _ _ 95 [] [] (fun (y:VaCrate)=>van_train_crate_1 y) (fun (y:VaCrate)=>[(.agg (c_VaCrate y))]) (fun (y:ByteArray)=>[.s y]) from ⟨⟨bdL_nil,bdL_nil⟩,fun H' hle hag c y r hr=>(ok_van_train_crate_1 hr).frz⟩) hx2).frz)<|qm rfl<|es (ra3 rfl rfl rfl)<|w_seq<|s0<|oB h fun x11 hx11 h=>qm rfl<|ow_q (b_eql rfl rfl) rfl<|qm rfl<|gp 23 47 (.b x11) 24 rfl rfl (fun hg3=>?_) (fun hg3=>?_) ?_
 ·refine oB (bt hx11 hg3) fun x4 hx4 hx11=>oB hx11 fun x7 hx7 hx11=>oB hx11 fun x10 hx10 hx11=>?_
  obtain rfl:=os hx11
  refine gT rfl hg3<|ow_q (o_faP rfl) rfl<|gT rfl hg3<|ow_q (o_load rfl rfl rfl) rfl<|gT rfl hg3<|ow_q (o_lits (rows:=List.map cI [x1.Size]) rfl rfl (frzR_map (fun _=>rfl) _)) rfl<|gT rfl hg3<|ow_call (rs:=[.b x4]) rfl rfl (fa_cons rfl (fa_cons rfl (fa_cons rfl fa_nil))) ((ok_van_outside hx4).frz)<|gT rfl hg3<|qm rfl<|gq 11 40 (.b x7) 29 rfl rfl (fun hg5=>?_) (fun hg5=>?_) ?_
  ·obtain rfl:=os (bt hx7 hg5)
   exact nF rfl hg5 rfl<|nF rfl hg5 rfl<|nF rfl hg5 rfl<|nF rfl hg5 rfl<|nF rfl hg5 rfl<|nF rfl hg5 rfl<|nF rfl hg5 rfl<|nF rfl hg5 rfl<|nF rfl hg5 rfl<|ow_noW (wanted_no rfl (by rw [hg5]; rfl)) rfl<|gT rfl hg3<|ow_q (o_pickT rfl hg5 rfl) rfl<|ge 11 rfl rfl rfl
  ·refine oB (bf hx7 hg5) fun x6 hx6 hx7=>?_
   obtain rfl:=os hx7
   exact gF rfl hg5<|qm rfl<|gF rfl hg5<|ow_q (o_nilck rfl rfl) rfl<|gF rfl hg5<|ow_q (o_faP rfl) rfl<|gF rfl hg5<|ow_q (o_faP rfl) rfl<|gF rfl hg5<|ow_q (o_loadB (x:=(.i a0.VaTrain.Stops)) rfl hb0 rfl) rfl<|gF rfl hg5<|ow_q (b_sub rfl rfl) rfl<|gF rfl hg5<|ow_q (o_faP rfl) rfl<|gF rfl hg5<|ow_q (o_load rfl rfl rfl) rfl<|gF rfl hg5<|ow_q (o_lits (rows:=List.map cI [x1.Stop]) rfl rfl (frzR_map (fun _=>rfl) _)) rfl<|gF rfl hg5<|ow_call (rs:=[.b x6]) rfl rfl (fa_cons rfl (fa_cons rfl (fa_cons rfl fa_nil))) ((ok_van_outside hx6).frz)<|gT rfl hg3<|ow_q (o_pickF rfl hg5 rfl) rfl<|ge 11 rfl rfl rfl
  refine gT rfl hg3<|qm rfl<|gq 5 46 (.b x10) 41 rfl rfl (fun hg8=>?_) (fun hg8=>?_) ?_
  ·obtain rfl:=os (bt hx10 hg8)
   exact nF rfl hg8 rfl<|nF rfl hg8 rfl<|nF rfl hg8 rfl<|ow_noW (wanted_no rfl (by rw [hg8]; rfl)) rfl<|gT rfl hg3<|ow_q (o_pickT rfl hg8 rfl) rfl<|ge 5 rfl rfl rfl
  ·refine oB (bf hx10 hg8) fun x9 hx9 hx10=>?_
   obtain rfl:=os hx10
   exact gF rfl hg8<|ow_q (o_faP rfl) rfl<|gF rfl hg8<|ow_q (o_load rfl rfl rfl) rfl<|gF rfl hg8<|ow_q (o_lits (rows:=List.map cI [x1.By]) rfl rfl (frzR_map (fun _=>rfl) _)) rfl<|gF rfl hg8<|ow_call (rs:=[.b x9]) rfl rfl (fa_cons rfl (fa_cons rfl (fa_cons rfl fa_nil))) ((ok_van_outside hx9).frz)<|gT rfl hg3<|ow_q (o_pickF rfl hg8 rfl) rfl<|ge 5 rfl rfl rfl
  exact ow_q (o_pickT rfl hg3 rfl) rfl<|ge 9 rfl rfl rfl
 ·obtain rfl:=os (bf hx11 hg3)
  exact nT rfl hg3 rfl<|nT rfl hg3 rfl<|nT rfl hg3 rfl<|ow_noW (wanted_no rfl (by rw [hg3]; rfl)) rfl<|nT rfl hg3 rfl<|nX rfl rfl<|nX rfl rfl<|nX rfl rfl<|nX rfl rfl<|nX rfl rfl<|nX rfl rfl<|nX rfl rfl<|nX rfl rfl<|nX rfl rfl<|ow_noW (wanted_tup rfl) rfl<|nT rfl hg3 rfl<|nT rfl hg3 rfl<|nX rfl rfl<|nX rfl rfl<|nX rfl rfl<|ow_noW (wanted_tup rfl) rfl<|nT rfl hg3 rfl<|ow_q (o_pickF rfl hg3 rfl) rfl<|ge 23 rfl rfl rfl
 refine es (ra2 rfl rfl)<|wi h rfl (fun hc12 h=>?_) fun hc12 h=>?_
 ·refine s0<|qm rfl<|es (ra1 rfl)<|w_ret ?_
  obtain rfl:=os h
  exact retq trivial (rs_tmp rfl rs_nil) (ov_cons rfl ov_nil) (bdL_cons bd_lit bdL_nil)
 ·refine w_skip<|s0<|qm rfl<|qm rfl<|es (ra1 rfl)<|w_ret ?_
  obtain rfl:=os h
  exact retq trivial (rs_tmp rfl rs_nil) (ov_cons rfl ov_nil) (bdL_cons bd_lit bdL_nil)
def van_train_pair (a0:van_train) (a1:Int):Option Int :=
 (idx a0.VaTrain.Apart a1).bind fun x1 =>
 (van_outside 0 (w64 ((List.length a0.VaTrain.Crates:Int) - 1)) [x1.A,x1.B]).bind fun x2 =>
 if x2=true then
  some 4
 else
  if (decide (x1.A ≥ x1.B))=true then
  some 2
  else
  some 0
theorem ok_van_train_pair {c:Sc} {H:AHeap} {a0:van_train} {m0_5:AV} {b0:Nat} (hb0:hcells H b0=some [(.seq 4 (List.map c_VaVan a0.VaTrain.Vans)),.i a0.VaTrain.Stops,.i a0.VaTrain.Handle,(.seq 4 (List.map c_VaCrate a0.VaTrain.Crates)),(.seq 2 (List.map c_VaPair a0.VaTrain.Apart)),m0_5]) {a1:Int} {r:Int} (h:van_train_pair a0 a1=some r) :
  CallE tab c H (.fn (.func 59) [] []) [.ptr b0 0,.i a1] [.i r]:= by
 unfold van_train_pair at h
 refine cE rfl rfl<|s0<|qm rfl<|es (ra2 rfl rfl)<|sg 0 rfl<|oB h fun x1 hx1 h=>qm rfl<|ow_q (o_nilck rfl rfl) rfl<|ow_q (o_faP rfl) rfl<|ow_q (o_faP rfl) rfl<|ow_q (o_loadB (x:=(.seq 2 (List.map c_VaPair a0.VaTrain.Apart))) rfl hb0 rfl) rfl<|qm rfl<|ow_q (o_idxS (f:=c_VaPair) rfl rfl hx1) rfl<|ow_q (o_loadCW rfl rfl) rfl<|ow_q o_alloc rfl<|ow_r (o_store (ds:=(c_VaPair x1)) rfl rfl rfl rfl (okL_plain rfl) rfl) rfl<|es (ra2 rfl rfl)<|w_seq<|w_block<|s0<|oB h fun x2 hx2 h=>qm rfl<|ow_q (o_nilck rfl rfl) rfl<|ow_q (o_faP rfl) rfl<|ow_q (o_faP rfl) rfl<|ow_q (o_loadB (x:=(.seq 4 (List.map c_VaCrate a0.VaTrain.Crates))) rfl hb0 rfl) rfl<|ow_q (o_lenL (f:=c_VaCrate) rfl) rfl<|ow_q (b_sub rfl rfl) rfl<|ow_q (o_faP rfl) rfl<|ow_q (o_load rfl rfl rfl) rfl<|ow_q (o_faP rfl) rfl<|ow_q (o_load rfl rfl rfl) rfl<|ow_q (o_lits (rows:=List.map cI [x1.A,x1.B]) rfl rfl (frzR_map (fun _=>rfl) _)) rfl<|ow_call (rs:=[.b x2]) rfl rfl (fa_cons rfl (fa_cons rfl (fa_cons rfl fa_nil))) ((ok_van_outside hx2).frz)<|qm rfl<|es (ra2 rfl rfl)<|wi h rfl (fun hc3 h=>?_) fun hc3 h=>?_
 ·refine s0<|qm rfl<|es (ra1 rfl)<|w_ret ?_
  obtain rfl:=os h
  exact retq trivial (rs_tmp rfl rs_nil) (ov_cons rfl ov_nil) (bdL_cons bd_lit bdL_nil)
 ·refine s0<|ow_q (o_faP rfl) rfl<|ow_q (o_load rfl rfl rfl) rfl<|ow_q (o_faP rfl) rfl<|ow_q (o_load rfl rfl rfl) rfl<|ow_q (b_geq rfl rfl) rfl<|qm rfl<|es (ra1 rfl)<|wi h rfl (fun hc4 h=>?_) fun hc4 h=>?_
  ·refine s0<|qm rfl<|es (ra1 rfl)<|w_ret ?_
   obtain rfl:=os h
   exact retq trivial (rs_tmp rfl rs_nil) (ov_cons rfl ov_nil) (bdL_cons bd_lit bdL_nil)
  ·refine w_skip<|s0<|qm rfl<|es (ra1 rfl)<|w_ret ?_
   obtain rfl:=os h
   exact retq trivial (rs_tmp rfl rs_nil) (ov_cons rfl ov_nil) (bdL_cons bd_lit bdL_nil)
def slices_IndexFunc_api_VaVan_api_VaVan_L1 (a0:(List VaVan)) (g1:(VaVan→Option Bool)) (s1:Int):Option (Int⊕(Int⊕Unit)) :=
 if (decide (s1 < (List.length a0:Int)))=true then
  (idx a0 s1).bind fun x4 =>
  (g1 x4).bind fun x5 =>
  if x5=true then
  some (.inr (.inl s1))
  else
  some (.inl (w64 (s1+1)))
 else
  some (.inr (.inr ()))
def slices_IndexFunc_api_VaVan_api_VaVan (a0:(List VaVan)) (g1:(VaVan→Option Bool)):Option Int :=
 (loop (slices_IndexFunc_api_VaVan_api_VaVan_L1 a0 g1) 0).bind fun (o7:(Int⊕Unit)) =>
 match o7 with
 | (.inl vo7_0) =>
  some vo7_0
 | (.inr vo7_1) =>
  some (-1)
theorem ok_slices_IndexFunc_api_VaVan_api_VaVan {c:Sc} {H:AHeap} {a0:(List VaVan)} {g1:VaVan→Option Bool} {g1_i:Nat} {g1_f g1_c:List AV} (g1_h:Impl tab H g1_i g1_f g1_c g1 (fun y=>[(.agg (c_VaVan y))]) (fun y=>[.b y])) {r:Int} (h:slices_IndexFunc_api_VaVan_api_VaVan a0 g1=some r) :
  CallE tab c H (.fn (.func 117) [] []) [(.seq 4 (List.map c_VaVan a0)),.fn (.func g1_i) g1_f g1_c] [.i r]:= by
 unfold slices_IndexFunc_api_VaVan_api_VaVan at h
 refine cE rfl rfl<|s0<|qm rfl<|es (ra2 rfl rfl)<|w_seq<|s0<|qm rfl<|ow_q (o_lenL (f:=c_VaVan) rfl) rfl<|qm rfl<|es (ra4 rfl rfl rfl rfl)<|w_block<|oB h fun o7 ho7 h=>wl (fun s1=>[(0,(.seq 4 (List.map c_VaVan a0))),(1,(.fn (.func g1_i) g1_f g1_c)),(7,(.i (List.length a0:Int))),(8,.i s1)]) (fun (q2:Unit) s1=>[]) 0 (fun r e s' H'=>(match r with | (.inl v)=>e = .ret∧RetQ H [.tmp 4] [.i v] e s' H' | (.inr v)=>PX 0 [] (H++[]) e s' H':Prop)) () ho7 rfl rfl (fun _ _=>rfl) (fun _=>rfl) rfl (fun s1=>(bdc bd_seq (bdc (bd_fn g1_h.1) (bdc bd_lit (bdc bd_lit bdn))))) (fun q2 s1 ys1 hs1=>?_) ?_
 ·unfold slices_IndexFunc_api_VaVan_api_VaVan_L1 at hs1
  refine s0<|ow_q (b_lss rfl rfl) rfl<|es (ra5 rfl rfl rfl rfl rfl)<|w_seq<|wi hs1 rfl (fun hc3 hs1=>?_) fun hc3 hs1=>?_
  ·refine w_skip<|w_seq<|w_block<|s0<|qm rfl<|qm rfl<|es (ra5 rfl rfl rfl rfl rfl)<|s0<|oB hs1 fun x4 hx4 hs1=>oB hs1 fun x5 hx5 hs1=>qm rfl<|qm rfl<|qm rfl<|ow_q (o_idxS (f:=c_VaVan) rfl rfl hx4) rfl<|ow_q (o_loadCW rfl rfl) rfl<|ow_call (rs:=[.b x5]) rfl rfl (fa_cons (fa_agg rfl) fa_nil) (Impl.call g1_h hx5 _)<|es (ra6 rfl rfl rfl rfl rfl rfl)<|wi hs1 rfl (fun hc6 hs1=>?_) fun hc6 hs1=>?_
   ·refine s0<|qm rfl<|qm rfl<|es (ra1 rfl)<|w_ret ?_
    obtain rfl:=os hs1
    exact lx rfl (And.intro rfl (retq trivial (rs_tmp rfl rs_nil) (ov_cons rfl ov_nil) (bdL_cons bd_lit bdL_nil))) (Sub.refl _)
   ·refine w_skip<|r0<|ow_q (b_add rfl rfl) rfl<|qm rfl<|en (ra4 rfl rfl rfl rfl) ?_
    cases hs1
    exact lnT () rfl (su4 rfl rfl rfl rfl)
  ·refine w_exit ?_
   obtain rfl:=os hs1
   exact lx rfl px (.nil _)
 ·rcases o7 with vo7_0 | vo7_1
  ·rintro e s' H' - ⟨rfl,hret⟩
   cases h
   exact hret
  ·rintro e s' H' - ⟨rfl,rfl,rfl⟩
   refine s0<|qm rfl<|es (ra1 rfl)<|w_ret ?_
   obtain rfl:=os h
   exact retq trivial (rs_tmp rfl rs_nil) (ov_cons rfl ov_nil) (bdL_cons bd_lit bdL_nil)
def slices_ContainsFunc_api_VaVan_api_VaVan (a0:(List VaVan)) (g1:(VaVan→Option Bool)):Option Bool :=
 (slices_IndexFunc_api_VaVan_api_VaVan a0 g1).bind fun x1 =>
 some (decide (x1 ≥ 0))
theorem ok_slices_ContainsFunc_api_VaVan_api_VaVan {c:Sc} {H:AHeap} {a0:(List VaVan)} {g1:VaVan→Option Bool} {g1_i:Nat} {g1_f g1_c:List AV} (g1_h:Impl tab H g1_i g1_f g1_c g1 (fun y=>[(.agg (c_VaVan y))]) (fun y=>[.b y])) {r:Bool} (h:slices_ContainsFunc_api_VaVan_api_VaVan a0 g1=some r) :
  CallE tab c H (.fn (.func 108) [] []) [(.seq 4 (List.map c_VaVan a0)),.fn (.func g1_i) g1_f g1_c] [.b r]:= by
 unfold slices_ContainsFunc_api_VaVan_api_VaVan at h
 refine cE rfl rfl<|s0<|qm rfl<|es (ra2 rfl rfl)<|s0<|oB h fun x1 hx1 h=>qm rfl<|qm rfl<|ow_call (rs:=[.i x1]) rfl rfl (fa_cons rfl (fa_cons rfl fa_nil)) ((ok_slices_IndexFunc_api_VaVan_api_VaVan (Impl.app g1_h _) hx1).frz)<|ow_q (b_geq rfl rfl) rfl<|qm rfl<|es (ra1 rfl)<|w_ret ?_
 obtain rfl:=os h
 exact retq trivial (rs_tmp rfl rs_nil) (ov_cons rfl ov_nil) (bdL_cons bd_lit bdL_nil)
def van_named_api_VaVan_1 (a0:VaVan) (g1:(VaVan→Option ByteArray)) (a2:(List VaVan)) (a3:Int):Option Bool :=
 (g1 a0).bind fun x1 =>
 (idx a2 a3).bind fun x2 =>
 (g1 x2).bind fun x3 =>
 some (eqS x1 x3)
theorem ok_van_named_api_VaVan_1 {c:Sc} {H:AHeap} {a0:VaVan} {g1:VaVan→Option ByteArray} {g1_i:Nat} {g1_f g1_c:List AV} (g1_h:Impl tab H g1_i g1_f g1_c g1 (fun y=>[(.agg (c_VaVan y))]) (fun y=>[.s y])) {b1:Nat} (hb1:hcells H b1=some [.fn (.func g1_i) g1_f g1_c]) {a2:(List VaVan)} {b2:Nat} (hb2:hcells H b2=some ((cL 4 c_VaVan) a2)) {a3:Int} {b3:Nat} (hb3:hcells H b3=some (cI a3)) {r:Bool} (h:van_named_api_VaVan_1 a0 g1 a2 a3=some r) :
  CallE tab c H (.fn (.func 109) [] []) [(.agg (c_VaVan a0)),.ptr b1 0,.ptr b2 0,.ptr b3 0] [.b r]:= by
 unfold van_named_api_VaVan_1 at h
 refine cE rfl rfl<|sg 0 rfl<|ow_q (o_box (cs:=c_VaVan a0) rfl rfl rfl) rfl<|qm rfl<|es (ra4 rfl rfl rfl rfl)<|s0<|oB h fun x1 hx1 h=>oB h fun x2 hx2 h=>oB h fun x3 hx3 h=>ow_q (o_loadB (x:=(.fn (.func g1_i) g1_f g1_c)) rfl hb1 rfl) rfl<|ow_q (o_loadW rfl rfl rfl) rfl<|ow_callP (rs:=[.s x1]) rfl rfl (pa_cons rfl pa_nil) (fa_cons (fa_agg rfl) fa_nil) (Impl.callP g1_h hx1 _)<|ow_q (o_loadB (x:=(.fn (.func g1_i) g1_f g1_c)) rfl hb1 rfl) rfl<|ow_q (o_loadB rfl hb2 rfl) rfl<|ow_q (o_loadB rfl hb3 rfl) rfl<|ow_q (o_idxS (f:=c_VaVan) rfl rfl hx2) rfl<|ow_q (o_loadCW rfl rfl) rfl<|ow_call (rs:=[.s x3]) rfl rfl (fa_cons (fa_agg rfl) fa_nil) (Impl.call g1_h hx3 _)<|ow_q (b_seq rfl rfl) rfl<|qm rfl<|es (ra1 rfl)<|w_ret ?_
 obtain rfl:=os h
 exact retq trivial (rs_tmp rfl rs_nil) (ov_cons rfl ov_nil) (bdL_cons bd_lit bdL_nil)
def van_named_api_VaVan (a0:(List VaVan)) (a1:Int) (g2:(VaVan→Option ByteArray)):Option Int :=
 (idx a0 a1).bind fun x1 =>
 (g2 x1).bind fun x2 =>
 (mould_Name x2).bind fun x3 =>
 if (!x3)=true then
  some 6
 else
  (slc a0 0 a1).bind fun x5 =>
  (slices_ContainsFunc_api_VaVan_api_VaVan x5 (fun (y:VaVan)=>van_named_api_VaVan_1 y g2 a0 a1)).bind fun x6 =>
  if x6=true then
  some 5
  else
  some 0
theorem ok_van_named_api_VaVan {c:Sc} {H:AHeap} {a0:(List VaVan)} {a1:Int} {g2:VaVan→Option ByteArray} {g2_i:Nat} {g2_f g2_c:List AV} (g2_h:Impl tab H g2_i g2_f g2_c g2 (fun y=>[(.agg (c_VaVan y))]) (fun y=>[.s y])) {r:Int} (h:van_named_api_VaVan a0 a1 g2=some r) :
  CallE tab c H (.fn (.func 92) [] []) [(.seq 4 (List.map c_VaVan a0)),.i a1,.fn (.func g2_i) g2_f g2_c] [.i r]:= by
 unfold van_named_api_VaVan at h
 refine cE rfl rfl<|sg 0 rfl<|ow_q (o_box (cs:=(cL 4 c_VaVan) a0) rfl rfl rfl) rfl<|ow_q (o_box (cs:=cI a1) rfl rfl rfl) rfl<|ow_q (o_box (cs:=[(.fn (.func g2_i) g2_f g2_c)]) rfl rfl rfl) rfl<|qm rfl<|es (ra3 rfl rfl rfl)<|w_seq<|w_block<|s0<|oB h fun x1 hx1 h=>oB h fun x2 hx2 h=>oB h fun x3 hx3 h=>ow_q (o_load (x:=(.fn (.func g2_i) g2_f g2_c)) rfl rfl rfl) rfl<|ow_q (o_load rfl rfl rfl) rfl<|ow_q (o_load rfl rfl rfl) rfl<|ow_q (o_idxS (f:=c_VaVan) rfl rfl hx1) rfl<|ow_q (o_loadCW rfl rfl) rfl<|ow_call (rs:=[.s x2]) rfl rfl (fa_cons (fa_agg rfl) fa_nil) (Impl.call g2_h hx2 _)<|ow_call (rs:=[.b x3]) rfl rfl (fa_cons rfl fa_nil) ((ok_mould_Name hx3).frz)<|ow_q (u_not rfl) rfl<|qm rfl<|es (ra4 rfl rfl rfl rfl)<|wi h rfl (fun hc4 h=>?_) fun hc4 h=>?_
 ·refine s0<|qm rfl<|es (ra1 rfl)<|w_ret ?_
  obtain rfl:=os h
  exact retq trivial (rs_tmp rfl rs_nil) (ov_cons rfl ov_nil) (bdL_cons bd_lit bdL_nil)
 ·refine s0<|oB h fun x5 hx5 h=>oB h fun x6 hx6 h=>ow_q (o_load rfl rfl rfl) rfl<|ow_q (o_load rfl rfl rfl) rfl<|ow_q (o_sliceQ (f:=c_VaVan) rfl rfl rfl hx5) rfl<|ow_q (o_mkfn rfl rfl) rfl<|ow_call (rs:=[.b x6]) rfl rfl (fa_cons rfl (fa_cons rfl fa_nil)) ((ok_slices_ContainsFunc_api_VaVan_api_VaVan (show Impl _ _ 109 [] [(.ptr (H.length + 2) 0),(.ptr (H.length + 0) 0),(.ptr (H.length + 1) 0)] (fun (y:VaVan)=>van_named_api_VaVan_1 y g2 a0 a1) (fun (y:VaVan)=>[(.agg (c_VaVan y))]) (fun (y:Bool)=>[.b y]) from ⟨⟨bdL_nil,(by rw [List.length_append]; exact (bdL_cons (bd_ptr rfl) (bdL_cons (bd_ptr rfl) (bdL_cons (bd_ptr rfl) bdL_nil))))⟩,fun H' hle hag c y r hr=>(callE_fn2 (ok_van_named_api_VaVan_1 (Impl.mono (Impl.app g2_h _) hle hag) (hag _ _ (hcells_loc rfl)) (hag _ _ (hcells_loc rfl)) (hag _ _ (hcells_loc rfl)) hr)).frz⟩) hx6).frz)<|qm rfl<|es (ra1 rfl)<|wi h rfl (fun hc7 h=>?_) fun hc7 h=>?_
  ·refine s0<|qm rfl<|es (ra1 rfl)<|w_ret ?_
   obtain rfl:=os h
   exact retq trivial (rs_tmp rfl rs_nil) (ov_cons rfl ov_nil) (bdL_cons bd_lit bdL_nil)
  ·refine w_skip<|s0<|qm rfl<|es (ra1 rfl)<|w_ret ?_
   obtain rfl:=os h
   exact retq trivial (rs_tmp rfl rs_nil) (ov_cons rfl ov_nil) (bdL_cons bd_lit bdL_nil)
def van_train_van_1 (a0:VaVan):Option ByteArray :=
 some a0.Name
theorem ok_van_train_van_1 {c:Sc} {H:AHeap} {a0:VaVan} {r:ByteArray} (h:van_train_van_1 a0=some r) :
  CallE tab c H (.fn (.func 93) [] []) [(.agg (c_VaVan a0))] [.s r]:= by
 unfold van_train_van_1 at h
 refine cE rfl rfl<|sg 0 rfl<|ow_q (o_box (cs:=c_VaVan a0) rfl rfl rfl) rfl<|qm rfl<|es (ra1 rfl)<|s0<|ow_q (o_faP rfl) rfl<|ow_q (o_load rfl rfl rfl) rfl<|qm rfl<|es (ra1 rfl)<|w_ret ?_
 obtain rfl:=os h
 exact retq trivial (rs_tmp rfl rs_nil) (ov_cons rfl ov_nil) (bdL_cons bd_lit bdL_nil)
def van_train_van_L1 (x1:VaVan) (s10:Int):Option (Int⊕(Int⊕Unit)) :=
 if (decide (s10 < (List.length x1.Legs:Int)))=true then
  (idx x1.Legs s10).bind fun x13 =>
  (van_outside 0 600 [x13.Lo,x13.Hi]).bind fun x14 =>
  if x14=true then
  some (.inr (.inl 7))
  else
  if (decide (x13.Lo > x13.Hi))=true then
   some (.inr (.inl 2))
  else
   some (.inl (w64 (s10+1)))
 else
  some (.inr (.inr ()))
def van_train_van (a0:van_train) (a1:Int):Option Int :=
 (idx a0.VaTrain.Vans a1).bind fun x1 =>
 (van_named_api_VaVan a0.VaTrain.Vans a1 (fun (y:VaVan)=>van_train_van_1 y)).bind fun x2 =>
 if (x2 != 0)=true then
  some x2
 else
  (van_outside 0 20 [x1.Room]).bind fun x4 =>
  (if x4=true then
  some true
  else
  (van_outside 0 5000 [x1.Leave]).bind fun x6 =>
  some x6).bind fun x7 =>
  if x7=true then
  some 7
  else
  if ((List.length x1.Legs:Int) != a0.VaTrain.Stops)=true then
   some 3
  else
   (loop (van_train_van_L1 x1) 0).bind fun (o17:(Int⊕Unit)) =>
   match o17 with
   | (.inl vo17_0) =>
   some vo17_0
   | (.inr vo17_1) =>
   some 0
theorem ok_van_train_van {c:Sc} {H:AHeap} {a0:van_train} {m0_5:AV} {b0:Nat} (hb0:hcells H b0=some [(.seq 4 (List.map c_VaVan a0.VaTrain.Vans)),.i a0.VaTrain.Stops,.i a0.VaTrain.Handle,(.seq 4 (List.map c_VaCrate a0.VaTrain.Crates)),(.seq 2 (List.map c_VaPair a0.VaTrain.Apart)),m0_5]) {a1:Int} {r:Int} (h:van_train_van a0 a1=some r) :
  CallE tab c H (.fn (.func 57) [] []) [.ptr b0 0,.i a1] [.i r]:= by
 unfold van_train_van at h
 refine cE rfl rfl<|s0<|qm rfl<|es (ra2 rfl rfl)<|sg 0 rfl<|oB h fun x1 hx1 h=>qm rfl<|ow_q (o_nilck rfl rfl) rfl<|ow_q (o_faP rfl) rfl<|ow_q (o_faP rfl) rfl<|ow_q (o_loadB (x:=(.seq 4 (List.map c_VaVan a0.VaTrain.Vans))) rfl hb0 rfl) rfl<|qm rfl<|ow_q (o_idxS (f:=c_VaVan) rfl rfl hx1) rfl<|ow_q (o_loadCW rfl rfl) rfl<|ow_q o_alloc rfl<|ow_r (o_store (ds:=(c_VaVan x1)) rfl rfl rfl rfl (okL_plain rfl) rfl) rfl<|es (ra3 rfl rfl rfl)<|s0<|oB h fun x2 hx2 h=>qm rfl<|ow_q (o_nilck rfl rfl) rfl<|ow_q (o_faP rfl) rfl<|ow_q (o_faP rfl) rfl<|ow_q (o_loadB (x:=(.seq 4 (List.map c_VaVan a0.VaTrain.Vans))) rfl hb0 rfl) rfl<|qm rfl<|ow_call (rs:=[.i x2]) rfl rfl (fa_cons rfl (fa_cons rfl (fa_cons rfl fa_nil))) ((ok_van_named_api_VaVan (show Impl _ _ 93 [] [] (fun (y:VaVan)=>van_train_van_1 y) (fun (y:VaVan)=>[(.agg (c_VaVan y))]) (fun (y:ByteArray)=>[.s y]) from ⟨⟨bdL_nil,bdL_nil⟩,fun H' hle hag c y r hr=>(ok_van_train_van_1 hr).frz⟩) hx2).frz)<|qm rfl<|es (ra3 rfl rfl rfl)<|w_seq<|w_block<|s0<|qm rfl<|ow_q (b_neq rfl rfl) rfl<|qm rfl<|es (ra4 rfl rfl rfl rfl)<|wi h rfl (fun hc3 h=>?_) fun hc3 h=>?_
 ·refine s0<|qm rfl<|qm rfl<|es (ra1 rfl)<|w_ret ?_
  obtain rfl:=os h
  exact retq trivial (rs_tmp rfl rs_nil) (ov_cons rfl ov_nil) (bdL_cons bd_lit bdL_nil)
 ·refine s0<|oB h fun x4 hx4 h=>oB h fun x7 hx7 h=>ow_q (o_faP rfl) rfl<|ow_q (o_load rfl rfl rfl) rfl<|ow_q (o_lits (rows:=List.map cI [x1.Room]) rfl rfl (frzR_map (fun _=>rfl) _)) rfl<|ow_call (rs:=[.b x4]) rfl rfl (fa_cons rfl (fa_cons rfl (fa_cons rfl fa_nil))) ((ok_van_outside hx4).frz)<|qm rfl<|gp 5 38 (.b x7) 33 rfl rfl (fun hg5=>?_) (fun hg5=>?_) ?_
  ·obtain rfl:=os (bt hx7 hg5)
   exact nF rfl hg5 rfl<|nF rfl hg5 rfl<|nF rfl hg5 rfl<|ow_noW (wanted_no rfl (by rw [hg5]; rfl)) rfl<|ow_q (o_pickT rfl hg5 rfl) rfl<|ge 5 rfl rfl rfl
  ·refine oB (bf hx7 hg5) fun x6 hx6 hx7=>?_
   obtain rfl:=os hx7
   exact gF rfl hg5<|ow_q (o_faP rfl) rfl<|gF rfl hg5<|ow_q (o_load rfl rfl rfl) rfl<|gF rfl hg5<|ow_q (o_lits (rows:=List.map cI [x1.Leave]) rfl rfl (frzR_map (fun _=>rfl) _)) rfl<|gF rfl hg5<|ow_call (rs:=[.b x6]) rfl rfl (fa_cons rfl (fa_cons rfl (fa_cons rfl fa_nil))) ((ok_van_outside hx6).frz)<|ow_q (o_pickF rfl hg5 rfl) rfl<|ge 5 rfl rfl rfl
  refine qm rfl<|es (ra3 rfl rfl rfl)<|wi h rfl (fun hc8 h=>?_) fun hc8 h=>?_
  ·refine s0<|qm rfl<|es (ra1 rfl)<|w_ret ?_
   obtain rfl:=os h
   exact retq trivial (rs_tmp rfl rs_nil) (ov_cons rfl ov_nil) (bdL_cons bd_lit bdL_nil)
  ·refine s0<|ow_q (o_faP rfl) rfl<|ow_q (o_load rfl rfl rfl) rfl<|ow_q (o_lenL (f:=c_Span) rfl) rfl<|qm rfl<|ow_q (o_nilck rfl rfl) rfl<|ow_q (o_faP rfl) rfl<|ow_q (o_faP rfl) rfl<|ow_q (o_loadB (x:=(.i a0.VaTrain.Stops)) rfl hb0 rfl) rfl<|ow_q (b_neq rfl rfl) rfl<|qm rfl<|es (ra2 rfl rfl)<|wi h rfl (fun hc9 h=>?_) fun hc9 h=>?_
   ·refine s0<|qm rfl<|es (ra1 rfl)<|w_ret ?_
    obtain rfl:=os h
    exact retq trivial (rs_tmp rfl rs_nil) (ov_cons rfl ov_nil) (bdL_cons bd_lit bdL_nil)
   ·refine w_skip<|w_seq<|s0<|ow_q (o_faP rfl) rfl<|ow_q (o_load rfl rfl rfl) rfl<|ow_q (o_lenL (f:=c_Span) rfl) rfl<|qm rfl<|es (ra3 rfl rfl rfl)<|w_block<|oB h fun o17 ho17 h=>wl (fun s10=>[(50,(.seq 2 (List.map c_Span x1.Legs))),(51,(.i (List.length x1.Legs:Int))),(52,.i s10)]) (fun (q11:Unit) s10=>[(.cells (c_VaVan x1))]) 1 (fun r e s' H'=>(match r with | (.inl v)=>e = .ret∧RetQ H [.tmp 4] [.i v] e s' H' | (.inr v)=>PX 1 [] (H++[(.cells (c_VaVan x1))]) e s' H':Prop)) () ho17 rfl rfl (fun _ _=>rfl) (fun _=>rfl) rfl (fun s10=>(bdc bd_seq (bdc bd_lit (bdc bd_lit bdn)))) (fun q11 s10 ys10 hs10=>?_) ?_
    ·unfold van_train_van_L1 at hs10
     refine s0<|ow_q (b_lss rfl rfl) rfl<|es (ra4 rfl rfl rfl rfl)<|w_seq<|wi hs10 rfl (fun hc12 hs10=>?_) fun hc12 hs10=>?_
     ·refine w_skip<|w_seq<|w_block<|sg 1 rfl<|oB hs10 fun x13 hx13 hs10=>ow_q (o_idxS (f:=c_Span) rfl rfl hx13) rfl<|ow_q (o_loadCW rfl rfl) rfl<|ow_q o_alloc rfl<|ow_r (o_store (ds:=(c_Span x13)) rfl rfl rfl rfl (okL_plain rfl) rfl) rfl<|es (ra4 rfl rfl rfl rfl)<|w_block<|s0<|oB hs10 fun x14 hx14 hs10=>ow_q (o_faP rfl) rfl<|ow_q (o_load rfl rfl rfl) rfl<|ow_q (o_faP rfl) rfl<|ow_q (o_load rfl rfl rfl) rfl<|ow_q (o_lits (rows:=List.map cI [x13.Lo,x13.Hi]) rfl rfl (frzR_map (fun _=>rfl) _)) rfl<|ow_call (rs:=[.b x14]) rfl rfl (fa_cons rfl (fa_cons rfl (fa_cons rfl fa_nil))) ((ok_van_outside hx14).frz)<|qm rfl<|es (ra5 rfl rfl rfl rfl rfl)<|wi hs10 rfl (fun hc15 hs10=>?_) fun hc15 hs10=>?_
      ·refine s0<|qm rfl<|es (ra1 rfl)<|w_ret ?_
       obtain rfl:=os hs10
       exact lx rfl (And.intro rfl (retq trivial (rs_tmp rfl rs_nil) (ov_cons rfl ov_nil) (bdL_cons bd_lit bdL_nil))) (Sub.refl _)
      ·refine s0<|ow_q (o_faP rfl) rfl<|ow_q (o_load rfl rfl rfl) rfl<|ow_q (o_faP rfl) rfl<|ow_q (o_load rfl rfl rfl) rfl<|ow_q (b_gtr rfl rfl) rfl<|qm rfl<|es (ra4 rfl rfl rfl rfl)<|wi hs10 rfl (fun hc16 hs10=>?_) fun hc16 hs10=>?_
       ·refine s0<|qm rfl<|es (ra1 rfl)<|w_ret ?_
        obtain rfl:=os hs10
        exact lx rfl (And.intro rfl (retq trivial (rs_tmp rfl rs_nil) (ov_cons rfl ov_nil) (bdL_cons bd_lit bdL_nil))) (Sub.refl _)
       ·refine w_skip<|r0<|ow_q (b_add rfl rfl) rfl<|qm rfl<|en (ra3 rfl rfl rfl) ?_
        cases hs10
        exact lnT () rfl (su3 rfl rfl rfl)
     ·refine w_exit ?_
      obtain rfl:=os hs10
      exact lx rfl px (.nil _)
    ·rcases o17 with vo17_0 | vo17_1
     ·rintro e s' H' - ⟨rfl,hret⟩
      cases h
      exact hret
     ·rintro e s' H' - ⟨rfl,rfl,rfl⟩
      refine s0<|qm rfl<|es (ra1 rfl)<|w_ret ?_
      obtain rfl:=os h
      exact retq trivial (rs_tmp rfl rs_nil) (ov_cons rfl ov_nil) (bdL_cons bd_lit bdL_nil)
def van_Check_L1 (a0:VaTrain) (s8:Int):Option (Int⊕((Int×Int×Int)⊕Unit)) :=
 if (decide (s8 < (List.length a0.Vans:Int)))=true then
  (van_train_van (van_train.mk a0) s8).bind fun x11 =>
  if (x11 != 0)=true then
  some (.inr (.inl (2,s8,x11)))
  else
  some (.inl (w64 (s8+1)))
 else
  some (.inr (.inr ()))
def van_Check_L2 (a0:VaTrain) (s16:Int):Option (Int⊕((Int×Int×Int)⊕Unit)) :=
 if (decide (s16 < (List.length a0.Crates:Int)))=true then
  (van_train_crate (van_train.mk a0) s16).bind fun x19 =>
  if (x19 != 0)=true then
  some (.inr (.inl (3,s16,x19)))
  else
  some (.inl (w64 (s16+1)))
 else
  some (.inr (.inr ()))
def van_Check_L3 (a0:VaTrain) (s24:Int):Option (Int⊕((Int×Int×Int)⊕Unit)) :=
 if (decide (s24 < (List.length a0.Apart:Int)))=true then
  (van_train_pair (van_train.mk a0) s24).bind fun x27 =>
  if (x27 != 0)=true then
  some (.inr (.inl (4,s24,x27)))
  else
  some (.inl (w64 (s24+1)))
 else
  some (.inr (.inr ()))
def van_Check (a0:VaTrain):Option (Int×Int×Int) :=
 (van_outside 1 3 [a0.Stops]).bind fun x1 =>
 (if x1=true then
  some true
 else
  (van_outside 0 60 [a0.Handle]).bind fun x3 =>
  some x3).bind fun x4 =>
 if x4=true then
  some (1,0,7)
 else
  (van_outside 1 3 [(List.length a0.Vans:Int)]).bind fun x6 =>
  if x6=true then
  some (2,0,3)
  else
  (loop (van_Check_L1 a0) 0).bind fun (o13:((Int×Int×Int)⊕Unit)) =>
  match o13 with
  | (.inl vo13_0) =>
   some vo13_0
  | (.inr vo13_1) =>
   (van_outside 0 6 [(List.length a0.Crates:Int)]).bind fun x14 =>
   if x14=true then
   some (3,0,3)
   else
   (loop (van_Check_L2 a0) 0).bind fun (o21:((Int×Int×Int)⊕Unit)) =>
   match o21 with
   | (.inl vo21_0) =>
    some vo21_0
   | (.inr vo21_1) =>
    (van_outside 0 4 [(List.length a0.Apart:Int)]).bind fun x22 =>
    if x22=true then
    some (4,0,3)
    else
    (loop (van_Check_L3 a0) 0).bind fun (o29:((Int×Int×Int)⊕Unit)) =>
    match o29 with
    | (.inl vo29_0) =>
     some vo29_0
    | (.inr vo29_1) =>
     some (0,0,0)
theorem ok_van_Check {c:Sc} {H:AHeap} {a0:VaTrain} {r:(Int×Int×Int)} (h:van_Check a0=some r) :
  CallE tab c H (.fn (.func 16) [] []) [(.agg (c_VaTrain a0))] [.i r.1,.i r.2.1,.i r.2.2]:= by
 unfold van_Check at h
 refine cE rfl rfl<|sg 0 rfl<|ow_q (o_box (cs:=c_VaTrain a0) rfl rfl rfl) rfl<|qm rfl<|qm rfl<|qm rfl<|es (ra1 rfl)<|w_seq<|s0<|oB h fun x1 hx1 h=>oB h fun x4 hx4 h=>ow_q (o_faP rfl) rfl<|ow_q (o_load rfl rfl rfl) rfl<|ow_q (o_lits (rows:=List.map cI [a0.Stops]) rfl rfl (frzR_map (fun _=>rfl) _)) rfl<|ow_call (rs:=[.b x1]) rfl rfl (fa_cons rfl (fa_cons rfl (fa_cons rfl fa_nil))) ((ok_van_outside hx1).frz)<|qm rfl<|gp 5 18 (.b x4) 13 rfl rfl (fun hg2=>?_) (fun hg2=>?_) ?_
 ·obtain rfl:=os (bt hx4 hg2)
  exact nF rfl hg2 rfl<|nF rfl hg2 rfl<|nF rfl hg2 rfl<|ow_noW (wanted_no rfl (by rw [hg2]; rfl)) rfl<|ow_q (o_pickT rfl hg2 rfl) rfl<|ge 5 rfl rfl rfl
 ·refine oB (bf hx4 hg2) fun x3 hx3 hx4=>?_
  obtain rfl:=os hx4
  exact gF rfl hg2<|ow_q (o_faP rfl) rfl<|gF rfl hg2<|ow_q (o_load rfl rfl rfl) rfl<|gF rfl hg2<|ow_q (o_lits (rows:=List.map cI [a0.Handle]) rfl rfl (frzR_map (fun _=>rfl) _)) rfl<|gF rfl hg2<|ow_call (rs:=[.b x3]) rfl rfl (fa_cons rfl (fa_cons rfl (fa_cons rfl fa_nil))) ((ok_van_outside hx3).frz)<|ow_q (o_pickF rfl hg2 rfl) rfl<|ge 5 rfl rfl rfl
 refine es (ra2 rfl rfl)<|wi h rfl (fun hc5 h=>?_) fun hc5 h=>?_
 ·refine s0<|qm rfl<|qm rfl<|qm rfl<|es (ra3 rfl rfl rfl)<|w_ret ?_
  obtain rfl:=os h
  exact retq trivial (rs_tmp rfl (rs_tmp rfl (rs_tmp rfl rs_nil))) (ov_cons rfl (ov_cons rfl (ov_cons rfl ov_nil))) (bdL_cons bd_lit (bdL_cons bd_lit (bdL_cons bd_lit bdL_nil)))
 ·refine w_skip<|sg 1 rfl<|ow_q (o_loadW rfl rfl rfl) rfl<|ow_q (o_build (cs:=[(.seq 4 (List.map c_VaVan a0.Vans)),.i a0.Stops,.i a0.Handle,(.seq 4 (List.map c_VaCrate a0.Crates)),(.seq 2 (List.map c_VaPair a0.Apart)),(.lit (.map none))]) rfl rfl) rfl<|ow_q (o_box (cs:=[(.seq 4 (List.map c_VaVan a0.Vans)),.i a0.Stops,.i a0.Handle,(.seq 4 (List.map c_VaCrate a0.Crates)),(.seq 2 (List.map c_VaPair a0.Apart)),(.lit (.map none))]) rfl rfl rfl) rfl<|qm rfl<|es (ra2 rfl rfl)<|w_seq<|s0<|ow_q (o_faP rfl) rfl<|ow_q (o_load rfl rfl rfl) rfl<|ow_q (o_lenL (f:=c_VaVan) rfl) rfl<|qm rfl<|ow_q (o_mkfn rfl rfl) rfl<|ow_q (o_build (cs:=[.i 2,.i 1,.i 3,(.i (List.length a0.Vans:Int)),(.fn (.func 57) [(.ptr (H.length + 1) 0)] [])]) rfl rfl) rfl<|ow_q (o_faP rfl) rfl<|ow_q (o_load rfl rfl rfl) rfl<|ow_q (o_lenL (f:=c_VaCrate) rfl) rfl<|qm rfl<|ow_q (o_mkfn rfl rfl) rfl<|ow_q (o_build (cs:=[.i 3,.i 0,.i 6,(.i (List.length a0.Crates:Int)),(.fn (.func 58) [(.ptr (H.length + 1) 0)] [])]) rfl rfl) rfl<|ow_q (o_faP rfl) rfl<|ow_q (o_load rfl rfl rfl) rfl<|ow_q (o_lenL (f:=c_VaPair) rfl) rfl<|qm rfl<|ow_q (o_mkfn rfl rfl) rfl<|ow_q (o_build (cs:=[.i 4,.i 0,.i 4,(.i (List.length a0.Apart:Int)),(.fn (.func 59) [(.ptr (H.length + 1) 0)] [])]) rfl rfl) rfl<|ow_q (o_xlits (rows:=[[.i 2,.i 1,.i 3,(.i (List.length a0.Vans:Int)),(.fn (.func 57) [(.ptr (H.length + 1) 0)] [])],[.i 3,.i 0,.i 6,(.i (List.length a0.Crates:Int)),(.fn (.func 58) [(.ptr (H.length + 1) 0)] [])],[.i 4,.i 0,.i 4,(.i (List.length a0.Apart:Int)),(.fn (.func 59) [(.ptr (H.length + 1) 0)] [])]]) rfl rfl) rfl<|ow_q (o_lenX rfl rfl) rfl<|qm rfl<|es (ra3 rfl rfl rfl)<|w_block<|w_unroll 2 rfl [(40,(.xseq 5 [[.i 2,.i 1,.i 3,(.i (List.length a0.Vans:Int)),(.fn (.func 57) [(.ptr (H.length + 1) 0)] [])],[.i 3,.i 0,.i 6,(.i (List.length a0.Crates:Int)),(.fn (.func 58) [(.ptr (H.length + 1) 0)] [])],[.i 4,.i 0,.i 4,(.i (List.length a0.Apart:Int)),(.fn (.func 59) [(.ptr (H.length + 1) 0)] [])]])),(41,.i 3),(42,.i 0)] (fun S hS=>restrict_lit (live:=[40,41,42]) rfl (by decide) (Sub.trans (su3 rfl rfl rfl) hS))<|s0<|ow_q (o_bin (v:=(.b true)) rfl rfl rfl) rfl<|es (ra4 rfl rfl rfl rfl)<|w_seq<|w_condT rfl rfl<|w_skip<|w_seq<|w_block<|sg 2 rfl<|ow_q (o_idxX rfl rfl rfl) rfl<|ow_q (o_loadCK (ds:=[.i 2,.i 1,.i 3,(.i (List.length a0.Vans:Int)),(.fn (.func 57) [(.ptr (H.length + 1) 0)] [])]) rfl rfl rfl) rfl<|ow_q o_alloc rfl<|ow_r (o_store (ds:=[.i 2,.i 1,.i 3,(.i (List.length a0.Vans:Int)),(.fn (.func 57) [(.ptr (H.length + 1) 0)] [])]) rfl rfl rfl rfl (okL_cur (Nat.add_le_add_left (Nat.le_of_ble_eq_true rfl) _)) rfl) rfl<|es (ra4 rfl rfl rfl rfl)<|w_seq<|s0<|oB h fun x6 hx6 h=>ow_q (o_faP rfl) rfl<|ow_q (o_load (x:=(.i 1)) rfl rfl rfl) rfl<|ow_q (o_faP rfl) rfl<|ow_q (o_load (x:=(.i 3)) rfl rfl rfl) rfl<|ow_q (o_faP rfl) rfl<|ow_q (o_load (x:=(.i (List.length a0.Vans:Int))) rfl rfl rfl) rfl<|ow_q (o_lits (rows:=List.map cI [(List.length a0.Vans:Int)]) rfl rfl (frzR_map (fun _=>rfl) _)) rfl<|ow_call (rs:=[.b x6]) rfl rfl (fa_cons rfl (fa_cons rfl (fa_cons rfl fa_nil))) ((ok_van_outside hx6).frz)<|es (ra5 rfl rfl rfl rfl rfl)<|wi h rfl (fun hc7 h=>?_) fun hc7 h=>?_
  ·refine s0<|ow_q (o_faP rfl) rfl<|ow_q (o_load (x:=(.i 2)) rfl rfl rfl) rfl<|qm rfl<|qm rfl<|qm rfl<|es (ra3 rfl rfl rfl)<|w_ret<|UnQ.out rfl ?_
   obtain rfl:=os h
   exact retq trivial (rs_tmp rfl (rs_tmp rfl (rs_tmp rfl rs_nil))) (ov_cons rfl (ov_cons rfl (ov_cons rfl ov_nil))) (bdL_cons bd_lit (bdL_cons bd_lit (bdL_cons bd_lit bdL_nil)))
  ·refine w_skip<|s0<|ow_q (o_faP rfl) rfl<|ow_q (o_load (x:=(.i (List.length a0.Vans:Int))) rfl rfl rfl) rfl<|qm rfl<|es (ra6 rfl rfl rfl rfl rfl rfl)<|w_block<|oB h fun o13 ho13 h=>wl (fun s8=>[(7,(.ptr (H.length + 2) 0)),(40,(.xseq 5 [[.i 2,.i 1,.i 3,(.i (List.length a0.Vans:Int)),(.fn (.func 57) [(.ptr (H.length + 1) 0)] [])],[.i 3,.i 0,.i 6,(.i (List.length a0.Crates:Int)),(.fn (.func 58) [(.ptr (H.length + 1) 0)] [])],[.i 4,.i 0,.i 4,(.i (List.length a0.Apart:Int)),(.fn (.func 59) [(.ptr (H.length + 1) 0)] [])]])),(41,.i 3),(42,.i 0),(57,(.i (List.length a0.Vans:Int))),(58,.i s8)]) (fun (q9:Unit) s8=>[(.cells (c_VaTrain a0)),(.cells [(.seq 4 (List.map c_VaVan a0.Vans)),.i a0.Stops,.i a0.Handle,(.seq 4 (List.map c_VaCrate a0.Crates)),(.seq 2 (List.map c_VaPair a0.Apart)),(.lit (.map none))]),(.cells [.i 2,.i 1,.i 3,(.i (List.length a0.Vans:Int)),(.fn (.func 57) [(.ptr (H.length + 1) 0)] [])])]) 3 (fun r e s' H'=>(match r with | (.inl v)=>e = .ret∧RetQ H [.tmp 2,.tmp 3,.tmp 4] [.i v.1,.i v.2.1,.i v.2.2] e s' H' | (.inr v)=>PX 2 [(40,(.xseq 5 [[.i 2,.i 1,.i 3,(.i (List.length a0.Vans:Int)),(.fn (.func 57) [(.ptr (H.length + 1) 0)] [])],[.i 3,.i 0,.i 6,(.i (List.length a0.Crates:Int)),(.fn (.func 58) [(.ptr (H.length + 1) 0)] [])],[.i 4,.i 0,.i 4,(.i (List.length a0.Apart:Int)),(.fn (.func 59) [(.ptr (H.length + 1) 0)] [])]])),(41,.i 3),(42,.i 0)] (H++[(.cells (c_VaTrain a0)),(.cells [(.seq 4 (List.map c_VaVan a0.Vans)),.i a0.Stops,.i a0.Handle,(.seq 4 (List.map c_VaCrate a0.Crates)),(.seq 2 (List.map c_VaPair a0.Apart)),(.lit (.map none))]),(.cells [.i 2,.i 1,.i 3,(.i (List.length a0.Vans:Int)),(.fn (.func 57) [(.ptr (H.length + 1) 0)] [])])]) e s' H':Prop)) () ho13 rfl rfl (fun _ _=>rfl) (fun _=>rfl) rfl (fun s8=>(bdc (bd_ptr rfl) (bdc (bd_xs (bdR_cons (bdL_cons bd_lit (bdL_cons bd_lit (bdL_cons bd_lit (bdL_cons bd_lit (bdL_cons (bd_fn0 (bdL_cons (bd_ptr rfl) bdL_nil) bdL_nil) bdL_nil))))) (bdR_cons (bdL_cons bd_lit (bdL_cons bd_lit (bdL_cons bd_lit (bdL_cons bd_lit (bdL_cons (bd_fn0 (bdL_cons (bd_ptr rfl) bdL_nil) bdL_nil) bdL_nil))))) (bdR_cons (bdL_cons bd_lit (bdL_cons bd_lit (bdL_cons bd_lit (bdL_cons bd_lit (bdL_cons (bd_fn0 (bdL_cons (bd_ptr rfl) bdL_nil) bdL_nil) bdL_nil))))) bdR_nil)))) (bdc bd_lit (bdc bd_lit (bdc bd_lit (bdc bd_lit bdn))))))) (fun q9 s8 ys8 hs8=>?_) ?_
   ·unfold van_Check_L1 at hs8
    refine s0<|ow_q (b_lss rfl rfl) rfl<|es (ra7 rfl rfl rfl rfl rfl rfl rfl)<|w_seq<|wi hs8 rfl (fun hc10 hs8=>?_) fun hc10 hs8=>?_
    ·refine w_skip<|w_seq<|w_block<|s0<|qm rfl<|qm rfl<|es (ra7 rfl rfl rfl rfl rfl rfl rfl)<|s0<|oB hs8 fun x11 hx11 hs8=>ow_q (o_faP rfl) rfl<|ow_q (o_load (x:=(.fn (.func 57) [(.ptr (H.length + 1) 0)] [])) rfl rfl rfl) rfl<|qm rfl<|ow_call (rs:=[.i x11]) rfl rfl (fa_cons rfl fa_nil) ((callE_fn2 (ok_van_train_van (hcells_loc rfl) hx11)).frz)<|qm rfl<|es (ra8 rfl rfl rfl rfl rfl rfl rfl rfl)<|s0<|qm rfl<|ow_q (b_neq rfl rfl) rfl<|es (ra9 rfl rfl rfl rfl rfl rfl rfl rfl rfl)<|wi hs8 rfl (fun hc12 hs8=>?_) fun hc12 hs8=>?_
     ·refine s0<|ow_q (o_faP rfl) rfl<|ow_q (o_load (x:=(.i 2)) rfl rfl rfl) rfl<|qm rfl<|qm rfl<|qm rfl<|qm rfl<|qm rfl<|es (ra3 rfl rfl rfl)<|w_ret ?_
      obtain rfl:=os hs8
      exact lx rfl (And.intro rfl (retq trivial (rs_tmp rfl (rs_tmp rfl (rs_tmp rfl rs_nil))) (ov_cons rfl (ov_cons rfl (ov_cons rfl ov_nil))) (bdL_cons bd_lit (bdL_cons bd_lit (bdL_cons bd_lit bdL_nil))))) (Sub.refl _)
     ·refine w_skip<|r0<|ow_q (b_add rfl rfl) rfl<|qm rfl<|en (ra6 rfl rfl rfl rfl rfl rfl) ?_
      cases hs8
      exact lnT () rfl (su6 rfl rfl rfl rfl rfl rfl)
    ·refine w_exit ?_
     obtain rfl:=os hs8
     exact lx rfl px (su3 rfl rfl rfl)
   ·rcases o13 with vo13_0 | vo13_1
    ·rintro e s' H' - ⟨rfl,hret⟩
     refine UnQ.out rfl ?_
     cases h
     exact hret
    ·rintro e s' H' - ⟨rfl,rfl,rfl⟩
     refine r0<|ow_q (o_bin (v:=(.i 1)) rfl rfl rfl) rfl<|qm rfl<|en (ra3 rfl rfl rfl)<|UnQ.nextT (live:=[40,41,42]) [(40,(.xseq 5 [[.i 2,.i 1,.i 3,(.i (List.length a0.Vans:Int)),(.fn (.func 57) [(.ptr (H.length + 1) 0)] [])],[.i 3,.i 0,.i 6,(.i (List.length a0.Crates:Int)),(.fn (.func 58) [(.ptr (H.length + 1) 0)] [])],[.i 4,.i 0,.i 4,(.i (List.length a0.Apart:Int)),(.fn (.func 59) [(.ptr (H.length + 1) 0)] [])]])),(41,.i 3),(42,.i 1)] (H++[(.cells (c_VaTrain a0)),(.cells [(.seq 4 (List.map c_VaVan a0.Vans)),.i a0.Stops,.i a0.Handle,(.seq 4 (List.map c_VaCrate a0.Crates)),(.seq 2 (List.map c_VaPair a0.Apart)),(.lit (.map none))])]) (su3 rfl rfl rfl) rfl (by decide) (take_loc _ _ _) (bdc (bd_xs (bdR_cons (bdL_cons bd_lit (bdL_cons bd_lit (bdL_cons bd_lit (bdL_cons bd_lit (bdL_cons (bd_fn0 (bdL_cons (bd_ptr rfl) bdL_nil) bdL_nil) bdL_nil))))) (bdR_cons (bdL_cons bd_lit (bdL_cons bd_lit (bdL_cons bd_lit (bdL_cons bd_lit (bdL_cons (bd_fn0 (bdL_cons (bd_ptr rfl) bdL_nil) bdL_nil) bdL_nil))))) (bdR_cons (bdL_cons bd_lit (bdL_cons bd_lit (bdL_cons bd_lit (bdL_cons bd_lit (bdL_cons (bd_fn0 (bdL_cons (bd_ptr rfl) bdL_nil) bdL_nil) bdL_nil))))) bdR_nil)))) (bdc bd_lit (bdc bd_lit bdn)))<|w_unroll 2 rfl [(40,(.xseq 5 [[.i 2,.i 1,.i 3,(.i (List.length a0.Vans:Int)),(.fn (.func 57) [(.ptr (H.length + 1) 0)] [])],[.i 3,.i 0,.i 6,(.i (List.length a0.Crates:Int)),(.fn (.func 58) [(.ptr (H.length + 1) 0)] [])],[.i 4,.i 0,.i 4,(.i (List.length a0.Apart:Int)),(.fn (.func 59) [(.ptr (H.length + 1) 0)] [])]])),(41,.i 3),(42,.i 1)] (fun S hS=>restrict_lit (live:=[40,41,42]) rfl (by decide) (Sub.trans (su3 rfl rfl rfl) hS))<|s0<|ow_q (o_bin (v:=(.b true)) rfl rfl rfl) rfl<|es (ra4 rfl rfl rfl rfl)<|w_seq<|w_condT rfl rfl<|w_skip<|w_seq<|w_block<|sg 2 rfl<|ow_q (o_idxX rfl rfl rfl) rfl<|ow_q (o_loadCK (ds:=[.i 3,.i 0,.i 6,(.i (List.length a0.Crates:Int)),(.fn (.func 58) [(.ptr (H.length + 1) 0)] [])]) rfl rfl rfl) rfl<|ow_q o_alloc rfl<|ow_r (o_store (ds:=[.i 3,.i 0,.i 6,(.i (List.length a0.Crates:Int)),(.fn (.func 58) [(.ptr (H.length + 1) 0)] [])]) rfl rfl rfl rfl (okL_cur (Nat.add_le_add_left (Nat.le_of_ble_eq_true rfl) _)) rfl) rfl<|es (ra4 rfl rfl rfl rfl)<|w_seq<|s0<|oB h fun x14 hx14 h=>ow_q (o_faP rfl) rfl<|ow_q (o_load (x:=(.i 0)) rfl rfl rfl) rfl<|ow_q (o_faP rfl) rfl<|ow_q (o_load (x:=(.i 6)) rfl rfl rfl) rfl<|ow_q (o_faP rfl) rfl<|ow_q (o_load (x:=(.i (List.length a0.Crates:Int))) rfl rfl rfl) rfl<|ow_q (o_lits (rows:=List.map cI [(List.length a0.Crates:Int)]) rfl rfl (frzR_map (fun _=>rfl) _)) rfl<|ow_call (rs:=[.b x14]) rfl rfl (fa_cons rfl (fa_cons rfl (fa_cons rfl fa_nil))) ((ok_van_outside hx14).frz)<|es (ra5 rfl rfl rfl rfl rfl)<|wi h rfl (fun hc15 h=>?_) fun hc15 h=>?_
     ·refine s0<|ow_q (o_faP rfl) rfl<|ow_q (o_load (x:=(.i 3)) rfl rfl rfl) rfl<|qm rfl<|qm rfl<|qm rfl<|es (ra3 rfl rfl rfl)<|w_ret<|UnQ.out rfl ?_
      obtain rfl:=os h
      exact retq trivial (rs_tmp rfl (rs_tmp rfl (rs_tmp rfl rs_nil))) (ov_cons rfl (ov_cons rfl (ov_cons rfl ov_nil))) (bdL_cons bd_lit (bdL_cons bd_lit (bdL_cons bd_lit bdL_nil)))
     ·refine w_skip<|s0<|ow_q (o_faP rfl) rfl<|ow_q (o_load (x:=(.i (List.length a0.Crates:Int))) rfl rfl rfl) rfl<|qm rfl<|es (ra6 rfl rfl rfl rfl rfl rfl)<|w_block<|oB h fun o21 ho21 h=>wl (fun s16=>[(7,(.ptr (H.length + 2) 0)),(40,(.xseq 5 [[.i 2,.i 1,.i 3,(.i (List.length a0.Vans:Int)),(.fn (.func 57) [(.ptr (H.length + 1) 0)] [])],[.i 3,.i 0,.i 6,(.i (List.length a0.Crates:Int)),(.fn (.func 58) [(.ptr (H.length + 1) 0)] [])],[.i 4,.i 0,.i 4,(.i (List.length a0.Apart:Int)),(.fn (.func 59) [(.ptr (H.length + 1) 0)] [])]])),(41,.i 3),(42,.i 1),(57,(.i (List.length a0.Crates:Int))),(58,.i s16)]) (fun (q17:Unit) s16=>[(.cells (c_VaTrain a0)),(.cells [(.seq 4 (List.map c_VaVan a0.Vans)),.i a0.Stops,.i a0.Handle,(.seq 4 (List.map c_VaCrate a0.Crates)),(.seq 2 (List.map c_VaPair a0.Apart)),(.lit (.map none))]),(.cells [.i 3,.i 0,.i 6,(.i (List.length a0.Crates:Int)),(.fn (.func 58) [(.ptr (H.length + 1) 0)] [])])]) 3 (fun r e s' H'=>(match r with | (.inl v)=>e = .ret∧RetQ H [.tmp 2,.tmp 3,.tmp 4] [.i v.1,.i v.2.1,.i v.2.2] e s' H' | (.inr v)=>PX 2 [(40,(.xseq 5 [[.i 2,.i 1,.i 3,(.i (List.length a0.Vans:Int)),(.fn (.func 57) [(.ptr (H.length + 1) 0)] [])],[.i 3,.i 0,.i 6,(.i (List.length a0.Crates:Int)),(.fn (.func 58) [(.ptr (H.length + 1) 0)] [])],[.i 4,.i 0,.i 4,(.i (List.length a0.Apart:Int)),(.fn (.func 59) [(.ptr (H.length + 1) 0)] [])]])),(41,.i 3),(42,.i 1)] (H++[(.cells (c_VaTrain a0)),(.cells [(.seq 4 (List.map c_VaVan a0.Vans)),.i a0.Stops,.i a0.Handle,(.seq 4 (List.map c_VaCrate a0.Crates)),(.seq 2 (List.map c_VaPair a0.Apart)),(.lit (.map none))]),(.cells [.i 3,.i 0,.i 6,(.i (List.length a0.Crates:Int)),(.fn (.func 58) [(.ptr (H.length + 1) 0)] [])])]) e s' H':Prop)) () ho21 rfl rfl (fun _ _=>rfl) (fun _=>rfl) rfl (fun s16=>(bdc (bd_ptr rfl) (bdc (bd_xs (bdR_cons (bdL_cons bd_lit (bdL_cons bd_lit (bdL_cons bd_lit (bdL_cons bd_lit (bdL_cons (bd_fn0 (bdL_cons (bd_ptr rfl) bdL_nil) bdL_nil) bdL_nil))))) (bdR_cons (bdL_cons bd_lit (bdL_cons bd_lit (bdL_cons bd_lit (bdL_cons bd_lit (bdL_cons (bd_fn0 (bdL_cons (bd_ptr rfl) bdL_nil) bdL_nil) bdL_nil))))) (bdR_cons (bdL_cons bd_lit (bdL_cons bd_lit (bdL_cons bd_lit (bdL_cons bd_lit (bdL_cons (bd_fn0 (bdL_cons (bd_ptr rfl) bdL_nil) bdL_nil) bdL_nil))))) bdR_nil)))) (bdc bd_lit (bdc bd_lit (bdc bd_lit (bdc bd_lit bdn))))))) (fun q17 s16 ys16 hs16=>?_) ?_
      ·unfold van_Check_L2 at hs16
       refine s0<|ow_q (b_lss rfl rfl) rfl<|es (ra7 rfl rfl rfl rfl rfl rfl rfl)<|w_seq<|wi hs16 rfl (fun hc18 hs16=>?_) fun hc18 hs16=>?_
       ·refine w_skip<|w_seq<|w_block<|s0<|qm rfl<|qm rfl<|es (ra7 rfl rfl rfl rfl rfl rfl rfl)<|s0<|oB hs16 fun x19 hx19 hs16=>ow_q (o_faP rfl) rfl<|ow_q (o_load (x:=(.fn (.func 58) [(.ptr (H.length + 1) 0)] [])) rfl rfl rfl) rfl<|qm rfl<|ow_call (rs:=[.i x19]) rfl rfl (fa_cons rfl fa_nil) ((callE_fn2 (ok_van_train_crate (hcells_loc rfl) hx19)).frz)<|qm rfl<|es (ra8 rfl rfl rfl rfl rfl rfl rfl rfl)<|s0<|qm rfl<|ow_q (b_neq rfl rfl) rfl<|es (ra9 rfl rfl rfl rfl rfl rfl rfl rfl rfl)<|wi hs16 rfl (fun hc20 hs16=>?_) fun hc20 hs16=>?_
        ·refine s0<|ow_q (o_faP rfl) rfl<|ow_q (o_load (x:=(.i 3)) rfl rfl rfl) rfl<|qm rfl<|qm rfl<|qm rfl<|qm rfl<|qm rfl<|es (ra3 rfl rfl rfl)<|w_ret ?_
         obtain rfl:=os hs16
         exact lx rfl (And.intro rfl (retq trivial (rs_tmp rfl (rs_tmp rfl (rs_tmp rfl rs_nil))) (ov_cons rfl (ov_cons rfl (ov_cons rfl ov_nil))) (bdL_cons bd_lit (bdL_cons bd_lit (bdL_cons bd_lit bdL_nil))))) (Sub.refl _)
        ·refine w_skip<|r0<|ow_q (b_add rfl rfl) rfl<|qm rfl<|en (ra6 rfl rfl rfl rfl rfl rfl) ?_
         cases hs16
         exact lnT () rfl (su6 rfl rfl rfl rfl rfl rfl)
       ·refine w_exit ?_
        obtain rfl:=os hs16
        exact lx rfl px (su3 rfl rfl rfl)
      ·rcases o21 with vo21_0 | vo21_1
       ·rintro e s' H' - ⟨rfl,hret⟩
        refine UnQ.out rfl ?_
        cases h
        exact hret
       ·rintro e s' H' - ⟨rfl,rfl,rfl⟩
        refine r0<|ow_q (o_bin (v:=(.i 2)) rfl rfl rfl) rfl<|qm rfl<|en (ra3 rfl rfl rfl)<|UnQ.nextT (live:=[40,41,42]) [(40,(.xseq 5 [[.i 2,.i 1,.i 3,(.i (List.length a0.Vans:Int)),(.fn (.func 57) [(.ptr (H.length + 1) 0)] [])],[.i 3,.i 0,.i 6,(.i (List.length a0.Crates:Int)),(.fn (.func 58) [(.ptr (H.length + 1) 0)] [])],[.i 4,.i 0,.i 4,(.i (List.length a0.Apart:Int)),(.fn (.func 59) [(.ptr (H.length + 1) 0)] [])]])),(41,.i 3),(42,.i 2)] (H++[(.cells (c_VaTrain a0)),(.cells [(.seq 4 (List.map c_VaVan a0.Vans)),.i a0.Stops,.i a0.Handle,(.seq 4 (List.map c_VaCrate a0.Crates)),(.seq 2 (List.map c_VaPair a0.Apart)),(.lit (.map none))])]) (su3 rfl rfl rfl) rfl (by decide) (take_loc _ _ _) (bdc (bd_xs (bdR_cons (bdL_cons bd_lit (bdL_cons bd_lit (bdL_cons bd_lit (bdL_cons bd_lit (bdL_cons (bd_fn0 (bdL_cons (bd_ptr rfl) bdL_nil) bdL_nil) bdL_nil))))) (bdR_cons (bdL_cons bd_lit (bdL_cons bd_lit (bdL_cons bd_lit (bdL_cons bd_lit (bdL_cons (bd_fn0 (bdL_cons (bd_ptr rfl) bdL_nil) bdL_nil) bdL_nil))))) (bdR_cons (bdL_cons bd_lit (bdL_cons bd_lit (bdL_cons bd_lit (bdL_cons bd_lit (bdL_cons (bd_fn0 (bdL_cons (bd_ptr rfl) bdL_nil) bdL_nil) bdL_nil))))) bdR_nil)))) (bdc bd_lit (bdc bd_lit bdn)))<|w_unroll 2 rfl [(40,(.xseq 5 [[.i 2,.i 1,.i 3,(.i (List.length a0.Vans:Int)),(.fn (.func 57) [(.ptr (H.length + 1) 0)] [])],[.i 3,.i 0,.i 6,(.i (List.length a0.Crates:Int)),(.fn (.func 58) [(.ptr (H.length + 1) 0)] [])],[.i 4,.i 0,.i 4,(.i (List.length a0.Apart:Int)),(.fn (.func 59) [(.ptr (H.length + 1) 0)] [])]])),(41,.i 3),(42,.i 2)] (fun S hS=>restrict_lit (live:=[40,41,42]) rfl (by decide) (Sub.trans (su3 rfl rfl rfl) hS))<|s0<|ow_q (o_bin (v:=(.b true)) rfl rfl rfl) rfl<|es (ra4 rfl rfl rfl rfl)<|w_seq<|w_condT rfl rfl<|w_skip<|w_seq<|w_block<|sg 2 rfl<|ow_q (o_idxX rfl rfl rfl) rfl<|ow_q (o_loadCK (ds:=[.i 4,.i 0,.i 4,(.i (List.length a0.Apart:Int)),(.fn (.func 59) [(.ptr (H.length + 1) 0)] [])]) rfl rfl rfl) rfl<|ow_q o_alloc rfl<|ow_r (o_store (ds:=[.i 4,.i 0,.i 4,(.i (List.length a0.Apart:Int)),(.fn (.func 59) [(.ptr (H.length + 1) 0)] [])]) rfl rfl rfl rfl (okL_cur (Nat.add_le_add_left (Nat.le_of_ble_eq_true rfl) _)) rfl) rfl<|es (ra4 rfl rfl rfl rfl)<|w_seq<|s0<|oB h fun x22 hx22 h=>ow_q (o_faP rfl) rfl<|ow_q (o_load (x:=(.i 0)) rfl rfl rfl) rfl<|ow_q (o_faP rfl) rfl<|ow_q (o_load (x:=(.i 4)) rfl rfl rfl) rfl<|ow_q (o_faP rfl) rfl<|ow_q (o_load (x:=(.i (List.length a0.Apart:Int))) rfl rfl rfl) rfl<|ow_q (o_lits (rows:=List.map cI [(List.length a0.Apart:Int)]) rfl rfl (frzR_map (fun _=>rfl) _)) rfl<|ow_call (rs:=[.b x22]) rfl rfl (fa_cons rfl (fa_cons rfl (fa_cons rfl fa_nil))) ((ok_van_outside hx22).frz)<|es (ra5 rfl rfl rfl rfl rfl)<|wi h rfl (fun hc23 h=>?_) fun hc23 h=>?_
        ·refine s0<|ow_q (o_faP rfl) rfl<|ow_q (o_load (x:=(.i 4)) rfl rfl rfl) rfl<|qm rfl<|qm rfl<|qm rfl<|es (ra3 rfl rfl rfl)<|w_ret<|UnQ.out rfl ?_
         obtain rfl:=os h
         exact retq trivial (rs_tmp rfl (rs_tmp rfl (rs_tmp rfl rs_nil))) (ov_cons rfl (ov_cons rfl (ov_cons rfl ov_nil))) (bdL_cons bd_lit (bdL_cons bd_lit (bdL_cons bd_lit bdL_nil)))
        ·refine w_skip<|s0<|ow_q (o_faP rfl) rfl<|ow_q (o_load (x:=(.i (List.length a0.Apart:Int))) rfl rfl rfl) rfl<|qm rfl<|es (ra6 rfl rfl rfl rfl rfl rfl)<|w_block<|oB h fun o29 ho29 h=>wl (fun s24=>[(7,(.ptr (H.length + 2) 0)),(40,(.xseq 5 [[.i 2,.i 1,.i 3,(.i (List.length a0.Vans:Int)),(.fn (.func 57) [(.ptr (H.length + 1) 0)] [])],[.i 3,.i 0,.i 6,(.i (List.length a0.Crates:Int)),(.fn (.func 58) [(.ptr (H.length + 1) 0)] [])],[.i 4,.i 0,.i 4,(.i (List.length a0.Apart:Int)),(.fn (.func 59) [(.ptr (H.length + 1) 0)] [])]])),(41,.i 3),(42,.i 2),(57,(.i (List.length a0.Apart:Int))),(58,.i s24)]) (fun (q25:Unit) s24=>[(.cells (c_VaTrain a0)),(.cells [(.seq 4 (List.map c_VaVan a0.Vans)),.i a0.Stops,.i a0.Handle,(.seq 4 (List.map c_VaCrate a0.Crates)),(.seq 2 (List.map c_VaPair a0.Apart)),(.lit (.map none))]),(.cells [.i 4,.i 0,.i 4,(.i (List.length a0.Apart:Int)),(.fn (.func 59) [(.ptr (H.length + 1) 0)] [])])]) 3 (fun r e s' H'=>(match r with | (.inl v)=>e = .ret∧RetQ H [.tmp 2,.tmp 3,.tmp 4] [.i v.1,.i v.2.1,.i v.2.2] e s' H' | (.inr v)=>PX 2 [(40,(.xseq 5 [[.i 2,.i 1,.i 3,(.i (List.length a0.Vans:Int)),(.fn (.func 57) [(.ptr (H.length + 1) 0)] [])],[.i 3,.i 0,.i 6,(.i (List.length a0.Crates:Int)),(.fn (.func 58) [(.ptr (H.length + 1) 0)] [])],[.i 4,.i 0,.i 4,(.i (List.length a0.Apart:Int)),(.fn (.func 59) [(.ptr (H.length + 1) 0)] [])]])),(41,.i 3),(42,.i 2)] (H++[(.cells (c_VaTrain a0)),(.cells [(.seq 4 (List.map c_VaVan a0.Vans)),.i a0.Stops,.i a0.Handle,(.seq 4 (List.map c_VaCrate a0.Crates)),(.seq 2 (List.map c_VaPair a0.Apart)),(.lit (.map none))]),(.cells [.i 4,.i 0,.i 4,(.i (List.length a0.Apart:Int)),(.fn (.func 59) [(.ptr (H.length + 1) 0)] [])])]) e s' H':Prop)) () ho29 rfl rfl (fun _ _=>rfl) (fun _=>rfl) rfl (fun s24=>(bdc (bd_ptr rfl) (bdc (bd_xs (bdR_cons (bdL_cons bd_lit (bdL_cons bd_lit (bdL_cons bd_lit (bdL_cons bd_lit (bdL_cons (bd_fn0 (bdL_cons (bd_ptr rfl) bdL_nil) bdL_nil) bdL_nil))))) (bdR_cons (bdL_cons bd_lit (bdL_cons bd_lit (bdL_cons bd_lit (bdL_cons bd_lit (bdL_cons (bd_fn0 (bdL_cons (bd_ptr rfl) bdL_nil) bdL_nil) bdL_nil))))) (bdR_cons (bdL_cons bd_lit (bdL_cons bd_lit (bdL_cons bd_lit (bdL_cons bd_lit (bdL_cons (bd_fn0 (bdL_cons (bd_ptr rfl) bdL_nil) bdL_nil) bdL_nil))))) bdR_nil)))) (bdc bd_lit (bdc bd_lit (bdc bd_lit (bdc bd_lit bdn))))))) (fun q25 s24 ys24 hs24=>?_) ?_
         ·unfold van_Check_L3 at hs24
          refine s0<|ow_q (b_lss rfl rfl) rfl<|es (ra7 rfl rfl rfl rfl rfl rfl rfl)<|w_seq<|wi hs24 rfl (fun hc26 hs24=>?_) fun hc26 hs24=>?_
          ·refine w_skip<|w_seq<|w_block<|s0<|qm rfl<|qm rfl<|es (ra7 rfl rfl rfl rfl rfl rfl rfl)<|s0<|oB hs24 fun x27 hx27 hs24=>ow_q (o_faP rfl) rfl<|ow_q (o_load (x:=(.fn (.func 59) [(.ptr (H.length + 1) 0)] [])) rfl rfl rfl) rfl<|qm rfl<|ow_call (rs:=[.i x27]) rfl rfl (fa_cons rfl fa_nil) ((callE_fn2 (ok_van_train_pair (hcells_loc rfl) hx27)).frz)<|qm rfl<|es (ra8 rfl rfl rfl rfl rfl rfl rfl rfl)<|s0<|qm rfl<|ow_q (b_neq rfl rfl) rfl<|es (ra9 rfl rfl rfl rfl rfl rfl rfl rfl rfl)<|wi hs24 rfl (fun hc28 hs24=>?_) fun hc28 hs24=>?_
           ·refine s0<|ow_q (o_faP rfl) rfl<|ow_q (o_load (x:=(.i 4)) rfl rfl rfl) rfl<|qm rfl<|qm rfl<|qm rfl<|qm rfl<|qm rfl<|es (ra3 rfl rfl rfl)<|w_ret ?_
            obtain rfl:=os hs24
            exact lx rfl (And.intro rfl (retq trivial (rs_tmp rfl (rs_tmp rfl (rs_tmp rfl rs_nil))) (ov_cons rfl (ov_cons rfl (ov_cons rfl ov_nil))) (bdL_cons bd_lit (bdL_cons bd_lit (bdL_cons bd_lit bdL_nil))))) (Sub.refl _)
           ·refine w_skip<|r0<|ow_q (b_add rfl rfl) rfl<|qm rfl<|en (ra6 rfl rfl rfl rfl rfl rfl) ?_
            cases hs24
            exact lnT () rfl (su6 rfl rfl rfl rfl rfl rfl)
          ·refine w_exit ?_
           obtain rfl:=os hs24
           exact lx rfl px (su3 rfl rfl rfl)
         ·rcases o29 with vo29_0 | vo29_1
          ·rintro e s' H' - ⟨rfl,hret⟩
           refine UnQ.out rfl ?_
           cases h
           exact hret
          ·rintro e s' H' - ⟨rfl,rfl,rfl⟩
           refine r0<|ow_q (o_bin (v:=(.i 3)) rfl rfl rfl) rfl<|qm rfl<|en (ra3 rfl rfl rfl)<|UnQ.nextT (live:=[40,41,42]) [(40,(.xseq 5 [[.i 2,.i 1,.i 3,(.i (List.length a0.Vans:Int)),(.fn (.func 57) [(.ptr (H.length+1) 0)] [])],[.i 3,.i 0,.i 6,(.i (List.length a0.Crates:Int)),(.fn (.func 58) [(.ptr (H.length+1) 0)] [])],[.i 4,.i 0,.i 4,(.i (List.length a0.Apart:Int)),(.fn (.func 59) [(.ptr (H.length+1) 0)] [])]])),(41,.i 3),(42,.i 3)] (H++[(.cells (c_VaTrain a0)),(.cells [(.seq 4 (List.map c_VaVan a0.Vans)),.i a0.Stops,.i a0.Handle,(.seq 4 (List.map c_VaCrate a0.Crates)),(.seq 2 (List.map c_VaPair a0.Apart)),(.lit (.map none))])]) (su3 rfl rfl rfl) rfl (by decide) (take_loc _ _ _) (bdc (bd_xs (bdR_cons (bdL_cons bd_lit (bdL_cons bd_lit (bdL_cons bd_lit (bdL_cons bd_lit (bdL_cons (bd_fn0 (bdL_cons (bd_ptr rfl) bdL_nil) bdL_nil) bdL_nil))))) (bdR_cons (bdL_cons bd_lit (bdL_cons bd_lit (bdL_cons bd_lit (bdL_cons bd_lit (bdL_cons (bd_fn0 (bdL_cons (bd_ptr rfl) bdL_nil) bdL_nil) bdL_nil))))) (bdR_cons (bdL_cons bd_lit (bdL_cons bd_lit (bdL_cons bd_lit (bdL_cons bd_lit (bdL_cons (bd_fn0 (bdL_cons (bd_ptr rfl) bdL_nil) bdL_nil) bdL_nil))))) bdR_nil)))) (bdc bd_lit (bdc bd_lit bdn)))<|w_unroll 2 rfl [(40,(.xseq 5 [[.i 2,.i 1,.i 3,(.i (List.length a0.Vans:Int)),(.fn (.func 57) [(.ptr (H.length+1) 0)] [])],[.i 3,.i 0,.i 6,(.i (List.length a0.Crates:Int)),(.fn (.func 58) [(.ptr (H.length+1) 0)] [])],[.i 4,.i 0,.i 4,(.i (List.length a0.Apart:Int)),(.fn (.func 59) [(.ptr (H.length+1) 0)] [])]])),(41,.i 3),(42,.i 3)] (fun S hS=>restrict_lit (live:=[40,41,42]) rfl (by decide) (Sub.trans (su3 rfl rfl rfl) hS))<|s0<|ow_q (o_bin (v:=(.b false)) rfl rfl rfl) rfl<|es (ra4 rfl rfl rfl rfl)<|w_seq<|w_condF rfl rfl<|w_exit<|UnQ.out rfl<|s0<|qm rfl<|qm rfl<|qm rfl<|es (ra3 rfl rfl rfl)<|w_ret ?_
           obtain rfl:=os h
           exact retq trivial (rs_tmp rfl (rs_tmp rfl (rs_tmp rfl rs_nil))) (ov_cons rfl (ov_cons rfl (ov_cons rfl ov_nil))) (bdL_cons bd_lit (bdL_cons bd_lit (bdL_cons bd_lit bdL_nil)))
def slices_IndexFunc_api_VaPair_api_VaPair_L1 (a0:(List VaPair)) (g1:(VaPair→Option Bool)) (s1:Int):Option (Int⊕(Int⊕Unit)) :=
 if (decide (s1 < (List.length a0:Int)))=true then
  (idx a0 s1).bind fun x4 =>
  (g1 x4).bind fun x5 =>
  if x5=true then
  some (.inr (.inl s1))
  else
  some (.inl (w64 (s1+1)))
 else
  some (.inr (.inr ()))
def slices_IndexFunc_api_VaPair_api_VaPair (a0:(List VaPair)) (g1:(VaPair→Option Bool)):Option Int :=
 (loop (slices_IndexFunc_api_VaPair_api_VaPair_L1 a0 g1) 0).bind fun (o7:(Int⊕Unit)) =>
 match o7 with
 | (.inl vo7_0) =>
  some vo7_0
 | (.inr vo7_1) =>
  some (-1)
theorem ok_slices_IndexFunc_api_VaPair_api_VaPair {c:Sc} {H:AHeap} {a0:(List VaPair)} {g1:VaPair→Option Bool} {g1_i:Nat} {g1_f g1_c:List AV} (g1_h:Impl tab H g1_i g1_f g1_c g1 (fun y=>[(.agg (c_VaPair y))]) (fun y=>[.b y])) {r:Int} (h:slices_IndexFunc_api_VaPair_api_VaPair a0 g1=some r) :
  CallE tab c H (.fn (.func 115) [] []) [(.seq 2 (List.map c_VaPair a0)),.fn (.func g1_i) g1_f g1_c] [.i r]:= by
 unfold slices_IndexFunc_api_VaPair_api_VaPair at h
 refine cE rfl rfl<|s0<|qm rfl<|es (ra2 rfl rfl)<|w_seq<|s0<|qm rfl<|ow_q (o_lenL (f:=c_VaPair) rfl) rfl<|qm rfl<|es (ra4 rfl rfl rfl rfl)<|w_block<|oB h fun o7 ho7 h=>wl (fun s1=>[(0,(.seq 2 (List.map c_VaPair a0))),(1,(.fn (.func g1_i) g1_f g1_c)),(7,(.i (List.length a0:Int))),(8,.i s1)]) (fun (q2:Unit) s1=>[]) 0 (fun r e s' H'=>(match r with | (.inl v)=>e = .ret∧RetQ H [.tmp 4] [.i v] e s' H' | (.inr v)=>PX 0 [] (H++[]) e s' H':Prop)) () ho7 rfl rfl (fun _ _=>rfl) (fun _=>rfl) rfl (fun s1=>(bdc bd_seq (bdc (bd_fn g1_h.1) (bdc bd_lit (bdc bd_lit bdn))))) (fun q2 s1 ys1 hs1=>?_) ?_
 ·unfold slices_IndexFunc_api_VaPair_api_VaPair_L1 at hs1
  refine s0<|ow_q (b_lss rfl rfl) rfl<|es (ra5 rfl rfl rfl rfl rfl)<|w_seq<|wi hs1 rfl (fun hc3 hs1=>?_) fun hc3 hs1=>?_
  ·refine w_skip<|w_seq<|w_block<|s0<|qm rfl<|qm rfl<|es (ra5 rfl rfl rfl rfl rfl)<|s0<|oB hs1 fun x4 hx4 hs1=>oB hs1 fun x5 hx5 hs1=>qm rfl<|qm rfl<|qm rfl<|ow_q (o_idxS (f:=c_VaPair) rfl rfl hx4) rfl<|ow_q (o_loadCW rfl rfl) rfl<|ow_call (rs:=[.b x5]) rfl rfl (fa_cons (fa_agg rfl) fa_nil) (Impl.call g1_h hx5 _)<|es (ra6 rfl rfl rfl rfl rfl rfl)<|wi hs1 rfl (fun hc6 hs1=>?_) fun hc6 hs1=>?_
   ·refine s0<|qm rfl<|qm rfl<|es (ra1 rfl)<|w_ret ?_
    obtain rfl:=os hs1
    exact lx rfl (And.intro rfl (retq trivial (rs_tmp rfl rs_nil) (ov_cons rfl ov_nil) (bdL_cons bd_lit bdL_nil))) (Sub.refl _)
   ·refine w_skip<|r0<|ow_q (b_add rfl rfl) rfl<|qm rfl<|en (ra4 rfl rfl rfl rfl) ?_
    cases hs1
    exact lnT () rfl (su4 rfl rfl rfl rfl)
  ·refine w_exit ?_
   obtain rfl:=os hs1
   exact lx rfl px (.nil _)
 ·rcases o7 with vo7_0 | vo7_1
  ·rintro e s' H' - ⟨rfl,hret⟩
   cases h
   exact hret
  ·rintro e s' H' - ⟨rfl,rfl,rfl⟩
   refine s0<|qm rfl<|es (ra1 rfl)<|w_ret ?_
   obtain rfl:=os h
   exact retq trivial (rs_tmp rfl rs_nil) (ov_cons rfl ov_nil) (bdL_cons bd_lit bdL_nil)
def slices_ContainsFunc_api_VaPair_api_VaPair (a0:(List VaPair)) (g1:(VaPair→Option Bool)):Option Bool :=
 (slices_IndexFunc_api_VaPair_api_VaPair a0 g1).bind fun x1 =>
 some (decide (x1 ≥ 0))
theorem ok_slices_ContainsFunc_api_VaPair_api_VaPair {c:Sc} {H:AHeap} {a0:(List VaPair)} {g1:VaPair→Option Bool} {g1_i:Nat} {g1_f g1_c:List AV} (g1_h:Impl tab H g1_i g1_f g1_c g1 (fun y=>[(.agg (c_VaPair y))]) (fun y=>[.b y])) {r:Bool} (h:slices_ContainsFunc_api_VaPair_api_VaPair a0 g1=some r) :
  CallE tab c H (.fn (.func 100) [] []) [(.seq 2 (List.map c_VaPair a0)),.fn (.func g1_i) g1_f g1_c] [.b r]:= by
 unfold slices_ContainsFunc_api_VaPair_api_VaPair at h
 refine cE rfl rfl<|s0<|qm rfl<|es (ra2 rfl rfl)<|s0<|oB h fun x1 hx1 h=>qm rfl<|qm rfl<|ow_call (rs:=[.i x1]) rfl rfl (fa_cons rfl (fa_cons rfl fa_nil)) ((ok_slices_IndexFunc_api_VaPair_api_VaPair (Impl.app g1_h _) hx1).frz)<|ow_q (b_geq rfl rfl) rfl<|qm rfl<|es (ra1 rfl)<|w_ret ?_
 obtain rfl:=os h
 exact retq trivial (rs_tmp rfl rs_nil) (ov_cons rfl ov_nil) (bdL_cons bd_lit bdL_nil)
def van_train_allowed_1 (a0:VaPair) (a1:Int) (a2:Int):Option Bool :=
 some ((a0.A == (VaPair.mk a1 a2).A) && ((a0.B == (VaPair.mk a1 a2).B) && true))
theorem ok_van_train_allowed_1 {c:Sc} {H:AHeap} {a0:VaPair} {a1:Int} {b1:Nat} (hb1:hcells H b1=some (cI a1)) {a2:Int} {b2:Nat} (hb2:hcells H b2=some (cI a2)) {r:Bool} (h:van_train_allowed_1 a0 a1 a2=some r) :
  CallE tab c H (.fn (.func 101) [] []) [(.agg (c_VaPair a0)),.ptr b1 0,.ptr b2 0] [.b r]:= by
 unfold van_train_allowed_1 at h
 refine cE rfl rfl<|sg 0 rfl<|ow_q (o_box (cs:=c_VaPair a0) rfl rfl rfl) rfl<|qm rfl<|es (ra3 rfl rfl rfl)<|s0<|ow_q (o_loadW rfl rfl rfl) rfl<|ow_q (o_loadB rfl hb1 rfl) rfl<|ow_q (o_loadB rfl hb2 rfl) rfl<|ow_q (o_build (cs:=c_VaPair (VaPair.mk a1 a2)) rfl rfl) rfl<|ow_q (o_cmpP (a:=c_VaPair a0) (b:=c_VaPair (VaPair.mk a1 a2)) rfl rfl rfl rfl (eql_int (eql_int eql_nil))) rfl<|qm rfl<|es (ra1 rfl)<|w_ret ?_
 obtain rfl:=os h
 exact retq trivial (rs_tmp rfl rs_nil) (ov_cons rfl ov_nil) (bdL_cons bd_lit bdL_nil)
def van_train_allowed_L1 (a0:van_train) (a1:(IArr 6)) (a2:Int) (x1:Int) (s3:(Int×Int)):Option ((Int×Int)⊕(Bool⊕Int)) :=
 if (decide (s3.2 < (w64 (a2+1))))=true then
  (idxN 6 (IArr.l a1) s3.2).bind fun x6 =>
  if (x6 != x1)=true then
  some (.inl (s3.1,(w64 (s3.2+1))))
  else
  (idx a0.VaTrain.Crates s3.2).bind fun x8 =>
  (slices_ContainsFunc_api_VaPair_api_VaPair a0.VaTrain.Apart (fun (y:VaPair)=>van_train_allowed_1 y s3.2 a2)).bind fun x9 =>
  if x9=true then
   some (.inr (.inl false))
  else
   some (.inl ((w64 (s3.1+x8.Size)),(w64 (s3.2+1))))
 else
  some (.inr (.inr s3.1))
def van_train_allowed (a0:van_train) (a1:(IArr 6)) (a2:Int):Option Bool :=
 (idxN 6 (IArr.l a1) a2).bind fun x1 =>
 if (x1 == 0)=true then
  some true
 else
  (loop (van_train_allowed_L1 a0 a1 a2 x1) (0,0)).bind fun (o11:(Bool⊕Int)) =>
  match o11 with
  | (.inl vo11_0) =>
  some vo11_0
  | (.inr vo11_1) =>
  (idx a0.VaTrain.Vans (w64 (x1 - 1))).bind fun x12 =>
  some (decide (vo11_1≤x12.Room))
theorem ok_van_train_allowed {c:Sc} {H:AHeap} {a0:van_train} {m0_5:AV} {b0:Nat} (hb0:hcells H b0=some [(.seq 4 (List.map c_VaVan a0.VaTrain.Vans)),.i a0.VaTrain.Stops,.i a0.VaTrain.Handle,(.seq 4 (List.map c_VaCrate a0.VaTrain.Crates)),(.seq 2 (List.map c_VaPair a0.VaTrain.Apart)),m0_5]) {a1:(IArr 6)} {a2:Int} {r:Bool} (h:van_train_allowed a0 a1 a2=some r) :
  CallE tab c H (.fn (.func 80) [] []) [.ptr b0 0,(.agg ((cA .i64) a1)),.i a2] [.b r]:= by
 unfold van_train_allowed at h
 refine cE rfl rfl<|sg 0 rfl<|ow_q (o_boxA rfl) rfl<|ow_q (o_box (cs:=cI a2) rfl rfl rfl) rfl<|qm rfl<|es (ra3 rfl rfl rfl)<|s0<|oB h fun x1 hx1 h=>ow_q (o_load rfl rfl rfl) rfl<|ow_q (o_idxPA rfl rfl hx1) rfl<|ow_q (o_loadPA rfl rfl hx1) rfl<|qm rfl<|es (ra4 rfl rfl rfl rfl)<|w_seq<|s0<|qm rfl<|ow_q (b_eql rfl rfl) rfl<|es (ra5 rfl rfl rfl rfl rfl)<|wi h rfl (fun hc2 h=>?_) fun hc2 h=>?_
 ·refine s0<|qm rfl<|es (ra1 rfl)<|w_ret ?_
  obtain rfl:=os h
  exact retq trivial (rs_tmp rfl rs_nil) (ov_cons rfl ov_nil) (bdL_cons bd_lit bdL_nil)
 ·refine w_skip<|s0<|qm rfl<|es (ra5 rfl rfl rfl rfl rfl)<|w_seq<|s0<|ow_q (o_load rfl rfl rfl) rfl<|ow_q (b_add rfl rfl) rfl<|qm rfl<|es (ra7 rfl rfl rfl rfl rfl rfl rfl)<|w_block<|oB h fun o11 ho11 h=>wl (fun s3=>[(0,.ptr b0 0),(4,(.ptr (H.length + 0) 0)),(5,(.ptr (H.length + 1) 0)),(7,.i x1),(8,.i s3.1),(16,(.i (w64 (a2 + 1)))),(17,.i s3.2)]) (fun (q4:Unit) s3=>[(.cells ((cA .i64) a1)),(.cells (cI a2))]) 2 (fun r e s' H'=>(match r with | (.inl v)=>e = .ret∧RetQ H [.tmp 6] [.b v] e s' H' | (.inr v)=>PX 0 [(0,.ptr b0 0),(7,.i x1),(8,.i v)] (H++[(.cells ((cA .i64) a1)),(.cells (cI a2))]) e s' H':Prop)) () ho11 rfl rfl (fun _ _=>rfl) (fun _=>rfl) rfl (fun s3=>(bdc (bd_ptrB hb0) (bdc (bd_ptr rfl) (bdc (bd_ptr rfl) (bdc bd_lit (bdc bd_lit (bdc bd_lit (bdc bd_lit bdn)))))))) (fun q4 s3 ys3 hs3=>?_) ?_
  ·unfold van_train_allowed_L1 at hs3
   refine s0<|ow_q (b_lss rfl rfl) rfl<|es (ra8 rfl rfl rfl rfl rfl rfl rfl rfl)<|w_seq<|wi hs3 rfl (fun hc5 hs3=>?_) fun hc5 hs3=>?_
   ·refine w_skip<|w_seq<|w_block<|sg 2 rfl<|qm rfl<|ow_q o_alloc rfl<|ow_r (o_store (ds:=(cI s3.2)) rfl rfl rfl rfl (okL_plain rfl) rfl) rfl<|es (ra8 rfl rfl rfl rfl rfl rfl rfl rfl)<|w_seq<|s0<|oB hs3 fun x6 hx6 hs3=>ow_q (o_load rfl rfl rfl) rfl<|ow_q (o_idxPA rfl rfl hx6) rfl<|ow_q (o_loadPA rfl rfl hx6) rfl<|qm rfl<|ow_q (b_neq rfl rfl) rfl<|es (ra9 rfl rfl rfl rfl rfl rfl rfl rfl rfl)<|wi hs3 rfl (fun hc7 hs3=>?_) fun hc7 hs3=>?_
    ·refine w_exit<|r0<|ow_q (b_add rfl rfl) rfl<|qm rfl<|en (ra7 rfl rfl rfl rfl rfl rfl rfl) ?_
     cases hs3
     exact lnT () rfl (su7 rfl rfl rfl rfl rfl rfl rfl)
    ·refine w_skip<|s0<|oB hs3 fun x8 hx8 hs3=>qm rfl<|qm rfl<|ow_q (o_nilck rfl rfl) rfl<|ow_q (o_faP rfl) rfl<|ow_q (o_faP rfl) rfl<|ow_q (o_loadB (x:=(.seq 4 (List.map c_VaCrate a0.VaTrain.Crates))) rfl hb0 rfl) rfl<|ow_q (o_load rfl rfl rfl) rfl<|ow_q (o_idxS (f:=c_VaCrate) rfl rfl hx8) rfl<|ow_q (o_faC (ds:=(List.drop 1 (c_VaCrate x8))) rfl rfl) rfl<|ow_q (o_loadC rfl rfl) rfl<|ow_q (b_add rfl rfl) rfl<|qm rfl<|es (ra8 rfl rfl rfl rfl rfl rfl rfl rfl)<|s0<|oB hs3 fun x9 hx9 hs3=>qm rfl<|ow_q (o_nilck rfl rfl) rfl<|ow_q (o_faP rfl) rfl<|ow_q (o_faP rfl) rfl<|ow_q (o_loadB (x:=(.seq 2 (List.map c_VaPair a0.VaTrain.Apart))) rfl hb0 rfl) rfl<|ow_q (o_mkfn rfl rfl) rfl<|ow_call (rs:=[.b x9]) rfl rfl (fa_cons rfl (fa_cons rfl fa_nil)) ((ok_slices_ContainsFunc_api_VaPair_api_VaPair (show Impl _ _ 101 [] [(.ptr (H.length + 2) 0),(.ptr (H.length + 1) 0)] (fun (y:VaPair)=>van_train_allowed_1 y s3.2 a2) (fun (y:VaPair)=>[(.agg (c_VaPair y))]) (fun (y:Bool)=>[.b y]) from ⟨⟨bdL_nil,(by rw [List.length_append]; exact (bdL_cons (bd_ptr rfl) (bdL_cons (bd_ptr rfl) bdL_nil)))⟩,fun H' hle hag c y r hr=>(callE_fn2 (ok_van_train_allowed_1 (hag _ _ (hcells_loc rfl)) (hag _ _ (hcells_loc rfl)) hr)).frz⟩) hx9).frz)<|es (ra8 rfl rfl rfl rfl rfl rfl rfl rfl)<|wi hs3 rfl (fun hc10 hs3=>?_) fun hc10 hs3=>?_
     ·refine s0<|qm rfl<|es (ra1 rfl)<|w_ret ?_
      obtain rfl:=os hs3
      exact lx rfl (And.intro rfl (retq trivial (rs_tmp rfl rs_nil) (ov_cons rfl ov_nil) (bdL_cons bd_lit bdL_nil))) (Sub.refl _)
     ·refine w_skip<|r0<|ow_q (b_add rfl rfl) rfl<|qm rfl<|en (ra7 rfl rfl rfl rfl rfl rfl rfl) ?_
      cases hs3
      exact lnT () rfl (su7 rfl rfl rfl rfl rfl rfl rfl)
   ·refine w_exit ?_
    obtain rfl:=os hs3
    exact lx rfl px (su3 rfl rfl rfl)
  ·rcases o11 with vo11_0 | vo11_1
   ·rintro e s' H' - ⟨rfl,hret⟩
    cases h
    exact hret
   ·rintro e s' H' - ⟨rfl,rfl,rfl⟩
    refine s0<|oB h fun x12 hx12 h=>qm rfl<|qm rfl<|ow_q (o_nilck rfl rfl) rfl<|ow_q (o_faP rfl) rfl<|ow_q (o_faP rfl) rfl<|ow_q (o_loadB (x:=(.seq 4 (List.map c_VaVan a0.VaTrain.Vans))) rfl hb0 rfl) rfl<|qm rfl<|ow_q (b_sub rfl rfl) rfl<|ow_q (o_idxS (f:=c_VaVan) rfl rfl hx12) rfl<|ow_q (o_faC (ds:=(List.drop 1 (c_VaVan x12))) rfl rfl) rfl<|ow_q (o_loadC rfl rfl) rfl<|ow_q (b_leq rfl rfl) rfl<|qm rfl<|es (ra1 rfl)<|w_ret ?_
    obtain rfl:=os h
    exact retq trivial (rs_tmp rfl rs_nil) (ov_cons rfl ov_nil) (bdL_cons bd_lit bdL_nil)
def van_train_twice_L1 (a1:(IArr 6)) (a2:Int) (x5:VaCrate) (x8:(List VaCrate)) (s9:(Int×Int×(List Int))):Option ((Int×Int×(List Int))⊕(List Int)) :=
 if (decide (s9.2.1 < (List.length x8:Int)))=true then
  (idx x8 s9.2.1).bind fun x12 =>
  (idxN 6 (IArr.l a1) s9.2.1).bind fun x13 =>
  (if ((x13 == (w64 (a2+1))) && (decide (x12.Stop < x5.Stop)))=true then
  (shrI .i64 s9.1 x12.Stop).bind fun x16 =>
  some ((andI x16 1) == 0)
  else
  some false).bind fun x17 =>
  if x17=true then
  (shlI .i64 1 x12.Stop).bind fun x19 =>
  (idx s9.2.2 x12.Stop).bind fun x20 =>
  (idx s9.2.2 x12.Stop).bind fun x21 =>
  some (.inl ((orI s9.1 x19),(w64 (s9.2.1+1)),(setI s9.2.2 x12.Stop (w64 (x20+1)))))
  else
  some (.inl (s9.1,(w64 (s9.2.1+1)),s9.2.2))
 else
  some (.inr s9.2.2)
def van_train_twice_L2 (a0:van_train) (a1:(IArr 6)) (a2:Int) (s2:(Int×(List Int))):Option ((Int×(List Int))⊕(List Int)) :=
 if (decide (s2.1 < (List.length a0.VaTrain.Crates:Int)))=true then
  (idx a0.VaTrain.Crates s2.1).bind fun x5 =>
  (idxN 6 (IArr.l a1) s2.1).bind fun x6 =>
  if (x6 != (w64 (a2+1)))=true then
  some (.inl ((w64 (s2.1+1)),s2.2))
  else
  (slc a0.VaTrain.Crates 0 s2.1).bind fun x8 =>
  (loop (van_train_twice_L1 a1 a2 x5 x8) (0,0,s2.2)).bind fun (o22:(List Int)) =>
  some (.inl ((w64 (s2.1+1)),o22))
 else
  some (.inr s2.2)
def van_train_twice (a0:van_train) (a1:(IArr 6)) (a2:Int):Option (List Int) :=
 (mkLen 8 a0.VaTrain.Stops 0).bind fun x1 =>
 (loop (van_train_twice_L2 a0 a1 a2) (0,x1)).bind fun (o23:(List Int)) =>
 some o23
theorem ok_van_train_twice {c:Sc} {H:AHeap} {a0:van_train} {m0_5:AV} {b0:Nat} (hb0:hcells H b0=some [(.seq 4 (List.map c_VaVan a0.VaTrain.Vans)),.i a0.VaTrain.Stops,.i a0.VaTrain.Handle,(.seq 4 (List.map c_VaCrate a0.VaTrain.Crates)),(.seq 2 (List.map c_VaPair a0.VaTrain.Apart)),m0_5]) {a1:(IArr 6)} {a2:Int} {r:(List Int)} (h:van_train_twice a0 a1 a2=some r) :
  CallE tab c H (.fn (.func 65) [] []) [.ptr b0 0,(.agg ((cA .i64) a1)),.i a2] [(.fresh 1 (List.map cI r))]:= by
 unfold van_train_twice at h
 refine cE rfl rfl<|sg 0 rfl<|ow_q (o_boxA rfl) rfl<|qm rfl<|es (ra3 rfl rfl rfl)<|sg 1 rfl<|oB h fun x1 hx1 h=>qm rfl<|ow_q (o_nilck rfl rfl) rfl<|ow_q (o_faP rfl) rfl<|ow_q (o_faP rfl) rfl<|ow_q (o_loadB (x:=(.i a0.VaTrain.Stops)) rfl hb0 rfl) rfl<|ow_q (o_mkslice (f:=cI) rfl rfl rfl hx1) rfl<|qm rfl<|es (ra4 rfl rfl rfl rfl)<|w_seq<|s0<|qm rfl<|ow_q (o_nilck rfl rfl) rfl<|ow_q (o_faP rfl) rfl<|ow_q (o_faP rfl) rfl<|ow_q (o_loadB (x:=(.seq 4 (List.map c_VaCrate a0.VaTrain.Crates))) rfl hb0 rfl) rfl<|ow_q (o_lenL (f:=c_VaCrate) rfl) rfl<|qm rfl<|es (ra7 rfl rfl rfl rfl rfl rfl rfl)<|w_block<|oB h fun o23 ho23 h=>wl (fun s2=>[(0,.ptr b0 0),(2,.i a2),(4,(.ptr (H.length+0) 0)),(7,(.asl (H.length+1) (List.length s2.2))),(23,(.seq 4 (List.map c_VaCrate a0.VaTrain.Crates))),(24,(.i (List.length a0.VaTrain.Crates:Int))),(25,.i s2.1)]) (fun (q3:Unit) s2=>[(.cells ((cA .i64) a1)),(.arr 1 false (List.map cI s2.2))]) 2 (fun r e s' H'=>PX 0 [(7,(.asl (H.length+1) (List.length r)))] (H++[(.cells ((cA .i64) a1)),(.arr 1 false (List.map cI r))]) e s' H') () ho23 rfl rfl (fun _ _=>rfl) (fun _=>rfl) rfl (fun s2=>(bdc (bd_ptrB hb0) (bdc bd_lit (bdc (bd_ptr rfl) (bdc (bd_asl rfl) (bdc bd_seq (bdc bd_lit (bdc bd_lit bdn)))))))) (fun q3 s2 ys2 hs2=>?_) ?_
 ·unfold van_train_twice_L2 at hs2
  refine s0<|ow_q (b_lss rfl rfl) rfl<|es (ra8 rfl rfl rfl rfl rfl rfl rfl rfl)<|w_seq<|wi hs2 rfl (fun hc4 hs2=>?_) fun hc4 hs2=>?_
  ·refine w_skip<|w_seq<|w_block<|sg 2 rfl<|oB hs2 fun x5 hx5 hs2=>qm rfl<|ow_q (o_idxS (f:=c_VaCrate) rfl rfl hx5) rfl<|ow_q (o_loadCW rfl rfl) rfl<|ow_q o_alloc rfl<|qm rfl<|ow_r (o_store (ds:=(c_VaCrate x5)) rfl rfl rfl rfl (okL_plain rfl) rfl) rfl<|es (ra9 rfl rfl rfl rfl rfl rfl rfl rfl rfl)<|w_seq<|s0<|oB hs2 fun x6 hx6 hs2=>qm rfl<|ow_q (o_idxPA rfl rfl hx6) rfl<|ow_q (o_loadPA rfl rfl hx6) rfl<|qm rfl<|ow_q (b_add rfl rfl) rfl<|ow_q (b_neq rfl rfl) rfl<|es (ra10 rfl rfl rfl rfl rfl rfl rfl rfl rfl rfl)<|wi hs2 rfl (fun hc7 hs2=>?_) fun hc7 hs2=>?_
   ·refine w_exit<|r0<|ow_q (b_add rfl rfl) rfl<|qm rfl<|en (ra7 rfl rfl rfl rfl rfl rfl rfl) ?_
    cases hs2
    exact lnT () rfl (su7 rfl rfl rfl rfl rfl rfl rfl)
   ·refine w_skip<|s0<|qm rfl<|es (ra10 rfl rfl rfl rfl rfl rfl rfl rfl rfl rfl)<|s0<|oB hs2 fun x8 hx8 hs2=>qm rfl<|ow_q (o_nilck rfl rfl) rfl<|ow_q (o_faP rfl) rfl<|ow_q (o_faP rfl) rfl<|ow_q (o_loadB (x:=(.seq 4 (List.map c_VaCrate a0.VaTrain.Crates))) rfl hb0 rfl) rfl<|qm rfl<|ow_q (o_sliceQ (f:=c_VaCrate) rfl rfl rfl hx8) rfl<|ow_q (o_lenL (f:=c_VaCrate) rfl) rfl<|qm rfl<|es (ra12 rfl rfl rfl rfl rfl rfl rfl rfl rfl rfl rfl rfl)<|w_block<|oB hs2 fun o22 ho22 hs2=>wl (fun s9=>[(0,.ptr b0 0),(2,.i a2),(4,(.ptr (H.length + 0) 0)),(7,(.asl (H.length + 1) (List.length s9.2.2))),(9,(.ptr (H.length + 2) 0)),(10,.i s9.1),(23,(.seq 4 (List.map c_VaCrate a0.VaTrain.Crates))),(24,(.i (List.length a0.VaTrain.Crates:Int))),(25,.i s2.1),(42,(.seq 4 (List.map c_VaCrate x8))),(43,(.i (List.length x8:Int))),(44,.i s9.2.1)]) (fun (q10:Unit) s9=>[(.cells ((cA .i64) a1)),(.arr 1 false (List.map cI s9.2.2)),(.cells (c_VaCrate x5))]) 3 (fun r e s' H'=>PX 2 [(0,.ptr b0 0),(2,.i a2),(4,(.ptr (H.length + 0) 0)),(7,(.asl (H.length + 1) (List.length r))),(23,(.seq 4 (List.map c_VaCrate a0.VaTrain.Crates))),(24,(.i (List.length a0.VaTrain.Crates:Int))),(25,.i s2.1)] (H++[(.cells ((cA .i64) a1)),(.arr 1 false (List.map cI r)),(.cells (c_VaCrate x5))]) e s' H') () ho22 rfl rfl (fun _ _=>rfl) (fun _=>rfl) rfl (fun s9=>(bdc (bd_ptrB hb0) (bdc bd_lit (bdc (bd_ptr rfl) (bdc (bd_asl rfl) (bdc (bd_ptr rfl) (bdc bd_lit (bdc bd_seq (bdc bd_lit (bdc bd_lit (bdc bd_seq (bdc bd_lit (bdc bd_lit bdn))))))))))))) (fun q10 s9 ys9 hs9=>?_) ?_
    ·unfold van_train_twice_L1 at hs9
     refine s0<|ow_q (b_lss rfl rfl) rfl<|es (ra13 rfl rfl rfl rfl rfl rfl rfl rfl rfl rfl rfl rfl rfl)<|w_seq<|wi hs9 rfl (fun hc11 hs9=>?_) fun hc11 hs9=>?_
     ·refine w_skip<|w_seq<|w_block<|sg 3 rfl<|oB hs9 fun x12 hx12 hs9=>qm rfl<|ow_q (o_idxS (f:=c_VaCrate) rfl rfl hx12) rfl<|ow_q (o_loadCW rfl rfl) rfl<|ow_q o_alloc rfl<|qm rfl<|ow_r (o_store (ds:=(c_VaCrate x12)) rfl rfl rfl rfl (okL_plain rfl) rfl) rfl<|es (ra14 rfl rfl rfl rfl rfl rfl rfl rfl rfl rfl rfl rfl rfl rfl)<|s0<|oB hs9 fun x13 hx13 hs9=>oB hs9 fun x17 hx17 hs9=>qm rfl<|ow_q (o_idxPA rfl rfl hx13) rfl<|ow_q (o_loadPA rfl rfl hx13) rfl<|qm rfl<|ow_q (b_add rfl rfl) rfl<|ow_q (b_eql rfl rfl) rfl<|qm rfl<|gp 6 61 (.b ((x13 == (w64 (a2 + 1))) && (decide (x12.Stop < x5.Stop)))) 55 rfl rfl (fun hg14=>?_) (fun hg14=>?_) ?_
      ·exact gT rfl hg14<|ow_q (o_faP rfl) rfl<|gT rfl hg14<|ow_q (o_load rfl rfl rfl) rfl<|gT rfl hg14<|ow_q (o_faP rfl) rfl<|gT rfl hg14<|ow_q (o_load rfl rfl rfl) rfl<|gT rfl hg14<|ow_q (b_lss rfl rfl) rfl<|ow_q (o_pickT rfl hg14 rfl) rfl<|ge 6 (by rw [hg14]; rfl) rfl rfl
      ·exact nT rfl hg14 rfl<|nT rfl hg14 rfl<|nT rfl hg14 rfl<|nT rfl hg14 rfl<|nT rfl hg14 rfl<|ow_q (o_pickF rfl hg14 rfl) rfl<|ge 6 (by rw [hg14]; rfl) rfl rfl
      refine qm rfl<|gp 7 69 (.b x17) 62 rfl rfl (fun hg15=>?_) (fun hg15=>?_) ?_
      ·refine oB (bt hx17 hg15) fun x16 hx16 hx17=>?_
       obtain rfl:=os hx17
       exact gT rfl hg15<|qm rfl<|gT rfl hg15<|ow_q (o_faP rfl) rfl<|gT rfl hg15<|ow_q (o_load rfl rfl rfl) rfl<|gT rfl hg15<|ow_q (o_shr rfl rfl hx16) rfl<|gT rfl hg15<|ow_q (o_bin (v:=(.i (andI x16 1))) rfl rfl rfl) rfl<|gT rfl hg15<|ow_q (b_eql rfl rfl) rfl<|ow_q (o_pickT rfl hg15 rfl) rfl<|ge 7 rfl rfl rfl
      ·obtain rfl:=os (bf hx17 hg15)
       exact nT rfl hg15 rfl<|nT rfl hg15 rfl<|nT rfl hg15 rfl<|nT rfl hg15 rfl<|nT rfl hg15 rfl<|nT rfl hg15 rfl<|ow_q (o_pickF rfl hg15 rfl) rfl<|ge 7 rfl rfl rfl
      refine es (ra14 rfl rfl rfl rfl rfl rfl rfl rfl rfl rfl rfl rfl rfl rfl)<|wi hs9 rfl (fun hc18 hs9=>?_) fun hc18 hs9=>?_
      ·refine s0<|oB hs9 fun x19 hx19 hs9=>qm rfl<|ow_q (o_faP rfl) rfl<|ow_q (o_load rfl rfl rfl) rfl<|ow_q (o_shl rfl rfl hx19) rfl<|ow_q (o_bin (v:=(.i (orI s9.1 x19))) rfl rfl rfl) rfl<|qm rfl<|es (ra13 rfl rfl rfl rfl rfl rfl rfl rfl rfl rfl rfl rfl rfl)<|r0<|oB hs9 fun x20 hx20 hs9=>oB hs9 fun x21 hx21 hs9=>qm rfl<|ow_q (o_faP rfl) rfl<|ow_q (o_load rfl rfl rfl) rfl<|ow_q (o_idxO (f:=cI) rfl rfl rfl rfl hx20) rfl<|ow_q (o_loadE (x:=(.i x20)) rfl rfl (List.length_map _) (row_of hx20) rfl) rfl<|ow_q (b_add rfl rfl) rfl<|ow_q (o_idxO (f:=cI) rfl rfl rfl rfl hx21) rfl<|ow_r (o_storeE (ds:=cI (w64 (x20 + 1))) rfl rfl rfl rfl rfl (List.length_map _) (row_of hx21) rfl rfl) rfl ?_
       rw [map_setI]
       rw [show List.length s9.2.2=List.length (setI s9.2.2 x12.Stop (w64 (x20+1))) from (setI_length _ _ _).symm]
       refine en (ra12 rfl rfl rfl rfl rfl rfl rfl rfl rfl rfl rfl rfl)<|r0<|ow_q (b_add rfl rfl) rfl<|qm rfl<|en (ra12 rfl rfl rfl rfl rfl rfl rfl rfl rfl rfl rfl rfl) ?_
       cases hs9
       exact lnT () rfl (su12 rfl rfl rfl rfl rfl rfl rfl rfl rfl rfl rfl rfl)
      ·refine w_skip<|r0<|ow_q (b_add rfl rfl) rfl<|qm rfl<|en (ra12 rfl rfl rfl rfl rfl rfl rfl rfl rfl rfl rfl rfl) ?_
       cases hs9
       exact lnT () rfl (su12 rfl rfl rfl rfl rfl rfl rfl rfl rfl rfl rfl rfl)
     ·refine w_exit ?_
      obtain rfl:=os hs9
      exact lx rfl px (su7 rfl rfl rfl rfl rfl rfl rfl)
    ·rintro e s' H' - ⟨rfl,rfl,rfl⟩
     refine r0<|ow_q (b_add rfl rfl) rfl<|qm rfl<|en (ra7 rfl rfl rfl rfl rfl rfl rfl) ?_
     cases hs2
     exact lnT () rfl (su7 rfl rfl rfl rfl rfl rfl rfl)
  ·refine w_exit ?_
   obtain rfl:=os hs2
   exact lx rfl px (su1 rfl)
 ·rintro e s' H' - ⟨rfl,rfl,rfl⟩
  refine s0<|qm rfl<|qm rfl<|es (ra1 rfl)<|w_ret ?_
  obtain rfl:=os h
  exact retq trivial (rs_tmp rfl rs_nil) (ov_cons (ov_own rfl (List.length_map _)) ov_nil) (bdL_cons bd_fresh bdL_nil)
def van_train_times_L1 (a0:van_train) (a2:Int) (x3:(List Int)) (s4:(Int×Span×(List Span))):Option ((Int×Span×(List Span))⊕(Span×(List Span))) :=
 if (decide (s4.1 < (List.length x3:Int)))=true then
  (idx x3 s4.1).bind fun x7 =>
  (idx a0.VaTrain.Vans a2).bind fun x8 =>
  (idx x8.Legs s4.1).bind fun x9 =>
  (idx a0.VaTrain.Vans a2).bind fun x10 =>
  (idx x10.Legs s4.1).bind fun x11 =>
  (app 16 s4.2.2 [(Span.mk (w64 (s4.2.1.Lo+x9.Lo)) (w64 (s4.2.1.Hi+x11.Hi)))]).bind fun x12 =>
  some (.inl ((w64 (s4.1+1)),(Span.mk (w64 ((w64 (s4.2.1.Lo+x9.Lo))+(w64 (x7 * a0.VaTrain.Handle)))) (w64 ((w64 (s4.2.1.Hi+x11.Hi))+(w64 (x7 * a0.VaTrain.Handle))))),x12))
 else
  some (.inr (s4.2.1,s4.2.2))
def van_train_times (a0:van_train) (a1:(IArr 6)) (a2:Int):Option (List Span) :=
 (idx a0.VaTrain.Vans a2).bind fun x1 =>
 (idx a0.VaTrain.Vans a2).bind fun x2 =>
 (van_train_twice a0 a1 a2).bind fun x3 =>
 (loop (van_train_times_L1 a0 a2 x3) (0,(Span.mk x1.Leave x2.Leave),([]:List Span))).bind fun (o13:(Span×(List Span))) =>
 some o13.2
theorem ok_van_train_times {c:Sc} {H:AHeap} {a0:van_train} {m0_5:AV} {b0:Nat} (hb0:hcells H b0=some [(.seq 4 (List.map c_VaVan a0.VaTrain.Vans)),.i a0.VaTrain.Stops,.i a0.VaTrain.Handle,(.seq 4 (List.map c_VaCrate a0.VaTrain.Crates)),(.seq 2 (List.map c_VaPair a0.VaTrain.Apart)),m0_5]) {a1:(IArr 6)} {a2:Int} {r:(List Span)} (h:van_train_times a0 a1 a2=some r) :
  CallE tab c H (.fn (.func 68) [] []) [.ptr b0 0,(.agg ((cA .i64) a1)),.i a2] [(.fresh 2 (List.map c_Span r))]:= by
 unfold van_train_times at h
 refine cE rfl rfl<|sg 0 rfl<|ow_q (o_boxA rfl) rfl<|ow_q o_nil rfl<|es (ra3 rfl rfl rfl)<|sg 2 rfl<|oB h fun x1 hx1 h=>oB h fun x2 hx2 h=>qm rfl<|ow_q (o_nilck rfl rfl) rfl<|ow_q (o_faP rfl) rfl<|ow_q (o_faP rfl) rfl<|ow_hidQ [2] (hs_of [2] rfl ways_nil rfl rfl) (seen0 rfl) (o_loadB (x:=(.seq 4 (List.map c_VaVan a0.VaTrain.Vans))) rfl hb0 rfl) rfl<|qm rfl<|ow_hidQ [2] (hs_of [2] rfl ways_nil rfl rfl) (seen0 rfl) (o_idxS (f:=c_VaVan) rfl rfl hx1) rfl<|ow_q (o_faC (ds:=(List.drop 2 (c_VaVan x1))) rfl rfl) rfl<|ow_hidQ [2] (hs_of [2] rfl ways_nil rfl rfl) (seen0 rfl) (o_loadC rfl rfl) rfl<|qm rfl<|ow_q (o_nilck rfl rfl) rfl<|ow_q (o_faP rfl) rfl<|ow_q (o_faP rfl) rfl<|ow_hidQ [2] (hs_of [2] rfl ways_nil rfl rfl) (seen0 rfl) (o_loadB (x:=(.seq 4 (List.map c_VaVan a0.VaTrain.Vans))) rfl hb0 rfl) rfl<|qm rfl<|ow_hidQ [2] (hs_of [2] rfl ways_nil rfl rfl) (seen0 rfl) (o_idxS (f:=c_VaVan) rfl rfl hx2) rfl<|ow_q (o_faC (ds:=(List.drop 2 (c_VaVan x2))) rfl rfl) rfl<|ow_hidQ [2] (hs_of [2] rfl ways_nil rfl rfl) (seen0 rfl) (o_loadC rfl rfl) rfl<|ow_q (o_build (cs:=c_Span (Span.mk x1.Leave x2.Leave)) rfl rfl) rfl<|ow_q o_alloc rfl<|ow_r (o_store (ds:=(c_Span (Span.mk x1.Leave x2.Leave))) rfl rfl rfl rfl (okL_plain rfl) rfl) rfl<|es (ra4 rfl rfl rfl rfl)<|sg 3 rfl<|ow_q o_nil rfl<|es (ra5 rfl rfl rfl rfl rfl)<|w_seq<|s0<|oB h fun x3 hx3 h=>qm rfl<|ow_q (o_loadA (kk:=.i64) (v:=a1) rfl rfl) rfl<|qm rfl<|ow_call (rs:=[(.seq 1 (List.map cI x3))]) rfl rfl (fa_cons rfl (fa_cons fa_arr (fa_cons rfl fa_nil))) ((ok_van_train_twice (hcells_base hb0 _) hx3).frz)<|ow_q (o_lenL (f:=cI) rfl) rfl<|qm rfl<|es (ra7 rfl rfl rfl rfl rfl rfl rfl)<|w_block<|oB h fun o13 ho13 h=>wl (fun s4=>[(0,.ptr b0 0),(2,.i a2),(7,(.ptr (H.length+2) 0)),(8,(.asl (H.length+3) (List.length s4.2.2))),(33,(.seq 1 (List.map cI x3))),(34,(.i (List.length x3:Int))),(35,.i s4.1)]) (fun (q5:Unit) s4=>[(.cells ((cA .i64) a1)),(.arr 2 false (List.map c_Span ([]:List Span))),(.cells (c_Span s4.2.1)),(.arr 2 false (List.map c_Span s4.2.2))]) 4 (fun r e s' H'=>PX 0 [(8,(.asl (H.length+3) (List.length r.2)))] (H++[(.cells ((cA .i64) a1)),(.arr 2 false (List.map c_Span ([]:List Span))),(.cells (c_Span r.1)),(.arr 2 false (List.map c_Span r.2))]) e s' H') () ho13 rfl rfl (fun _ _=>rfl) (fun _=>rfl) rfl (fun s4=>(bdc (bd_ptrB hb0) (bdc bd_lit (bdc (bd_ptr rfl) (bdc (bd_asl rfl) (bdc bd_seq (bdc bd_lit (bdc bd_lit bdn)))))))) (fun q5 s4 ys4 hs4=>?_) ?_
 ·unfold van_train_times_L1 at hs4
  refine s0<|ow_q (b_lss rfl rfl) rfl<|es (ra8 rfl rfl rfl rfl rfl rfl rfl rfl)<|w_seq<|wi hs4 rfl (fun hc6 hs4=>?_) fun hc6 hs4=>?_
  ·refine w_skip<|w_seq<|w_block<|s0<|oB hs4 fun x7 hx7 hs4=>qm rfl<|ow_q (o_idxS (f:=cI) rfl rfl hx7) rfl<|ow_q (o_loadC rfl rfl) rfl<|qm rfl<|qm rfl<|es (ra9 rfl rfl rfl rfl rfl rfl rfl rfl rfl)<|s0<|oB hs4 fun x8 hx8 hs4=>oB hs4 fun x9 hx9 hs4=>ow_q (o_faP rfl) rfl<|ow_q (o_load rfl rfl rfl) rfl<|qm rfl<|ow_q (o_nilck rfl rfl) rfl<|ow_q (o_faP rfl) rfl<|ow_q (o_faP rfl) rfl<|ow_q (o_loadB (x:=(.seq 4 (List.map c_VaVan a0.VaTrain.Vans))) rfl hb0 rfl) rfl<|qm rfl<|ow_q (o_idxS (f:=c_VaVan) rfl rfl hx8) rfl<|ow_q (o_faC (ds:=(List.drop 3 (c_VaVan x8))) rfl rfl) rfl<|ow_q (o_loadC rfl rfl) rfl<|qm rfl<|ow_q (o_idxS (f:=c_Span) rfl rfl hx9) rfl<|ow_q (o_faC (ds:=(c_Span x9)) rfl rfl) rfl<|ow_q (o_loadC rfl rfl) rfl<|ow_q (b_add rfl rfl) rfl<|ow_q (o_faP rfl) rfl<|ow_r (o_store (ds:=(c_Span (Span.mk (w64 (s4.2.1.Lo + x9.Lo)) s4.2.1.Hi))) rfl rfl rfl rfl (okL_plain rfl) rfl) rfl<|es (ra9 rfl rfl rfl rfl rfl rfl rfl rfl rfl)<|s0<|oB hs4 fun x10 hx10 hs4=>oB hs4 fun x11 hx11 hs4=>ow_q (o_faP rfl) rfl<|ow_q (o_load rfl rfl rfl) rfl<|qm rfl<|ow_q (o_nilck rfl rfl) rfl<|ow_q (o_faP rfl) rfl<|ow_q (o_faP rfl) rfl<|ow_q (o_loadB (x:=(.seq 4 (List.map c_VaVan a0.VaTrain.Vans))) rfl hb0 rfl) rfl<|qm rfl<|ow_q (o_idxS (f:=c_VaVan) rfl rfl hx10) rfl<|ow_q (o_faC (ds:=(List.drop 3 (c_VaVan x10))) rfl rfl) rfl<|ow_q (o_loadC rfl rfl) rfl<|qm rfl<|ow_q (o_idxS (f:=c_Span) rfl rfl hx11) rfl<|ow_q (o_faC (ds:=(List.drop 1 (c_Span x11))) rfl rfl) rfl<|ow_q (o_loadC rfl rfl) rfl<|ow_q (b_add rfl rfl) rfl<|ow_q (o_faP rfl) rfl<|ow_r (o_store (ds:=(c_Span (Span.mk (w64 (s4.2.1.Lo + x9.Lo)) (w64 (s4.2.1.Hi + x11.Hi))))) rfl rfl rfl rfl (okL_plain rfl) rfl) rfl<|es (ra8 rfl rfl rfl rfl rfl rfl rfl rfl)<|s0<|oB hs4 fun x12 hx12 hs4=>qm rfl<|ow_q (o_loadW rfl rfl rfl) rfl<|ow_q (o_lits (rows:=List.map c_Span [(Span.mk (w64 (s4.2.1.Lo + x9.Lo)) (w64 (s4.2.1.Hi + x11.Hi)))]) rfl rfl (frzR_map (fun _=>rfl) _)) rfl<|ow_w (o_appO (f:=c_Span) rfl rfl rfl rfl rd_seq (fun _=>rfl) hx12) rfl ?_
   refine qm rfl<|es (ra8 rfl rfl rfl rfl rfl rfl rfl rfl)<|s0<|ow_q (o_faP rfl) rfl<|ow_q (o_load rfl rfl rfl) rfl<|qm rfl<|qm rfl<|ow_q (o_nilck rfl rfl) rfl<|ow_q (o_faP rfl) rfl<|ow_q (o_faP rfl) rfl<|ow_q (o_loadB (x:=(.i a0.VaTrain.Handle)) rfl hb0 rfl) rfl<|ow_q (b_mul rfl rfl) rfl<|ow_q (b_add rfl rfl) rfl<|ow_q (o_faP rfl) rfl<|ow_r (o_store (ds:=(c_Span (Span.mk (w64 ((w64 (s4.2.1.Lo+x9.Lo))+(w64 (x7 * a0.VaTrain.Handle)))) (w64 (s4.2.1.Hi+x11.Hi))))) rfl rfl rfl rfl (okL_plain rfl) rfl) rfl<|es (ra8 rfl rfl rfl rfl rfl rfl rfl rfl)<|r0<|ow_q (o_faP rfl) rfl<|ow_q (o_load rfl rfl rfl) rfl<|qm rfl<|qm rfl<|ow_q (o_nilck rfl rfl) rfl<|ow_q (o_faP rfl) rfl<|ow_q (o_faP rfl) rfl<|ow_q (o_loadB (x:=(.i a0.VaTrain.Handle)) rfl hb0 rfl) rfl<|ow_q (b_mul rfl rfl) rfl<|ow_q (b_add rfl rfl) rfl<|ow_q (o_faP rfl) rfl<|ow_r (o_store (ds:=(c_Span (Span.mk (w64 ((w64 (s4.2.1.Lo+x9.Lo))+(w64 (x7 * a0.VaTrain.Handle)))) (w64 ((w64 (s4.2.1.Hi+x11.Hi))+(w64 (x7 * a0.VaTrain.Handle))))))) rfl rfl rfl rfl (okL_plain rfl) rfl) rfl<|en (ra7 rfl rfl rfl rfl rfl rfl rfl)<|r0<|ow_q (b_add rfl rfl) rfl<|qm rfl<|en (ra7 rfl rfl rfl rfl rfl rfl rfl) ?_
   cases hs4
   exact lnT () rfl (su7 rfl rfl rfl rfl rfl rfl rfl)
  ·refine w_exit ?_
   obtain rfl:=os hs4
   exact lx rfl px (su1 rfl)
 ·rintro e s' H' - ⟨rfl,rfl,rfl⟩
  refine s0<|qm rfl<|qm rfl<|es (ra1 rfl)<|w_ret ?_
  obtain rfl:=os h
  exact retq trivial (rs_tmp rfl rs_nil) (ov_cons (ov_own rfl (List.length_map _)) ov_nil) (bdL_cons bd_fresh bdL_nil)
def van_Times_L1 (a1:(List Int)) (s6:(Int×(IArr 6))):Option ((Int×(IArr 6))⊕(IArr 6)) :=
 if (decide (s6.1 < (List.length a1:Int)))=true then
  (idx a1 s6.1).bind fun x9 =>
  (idxN 6 (IArr.l s6.2) s6.1).bind fun x10 =>
  some (.inl ((w64 (s6.1+1)),(IArr.set s6.2 s6.1 (w64 (x9+1)))))
 else
  some (.inr s6.2)
def van_Times_L2 (a0:VaTrain) (a1:(List Int)) (o11:(IArr 6)) (s12:Int):Option (Int⊕(Unit⊕Unit)) :=
 if (decide (s12 < (List.length a1:Int)))=true then
  (van_train_allowed (van_train.mk a0) o11 s12).bind fun x15 =>
  if (!x15)=true then
  some (.inr (.inr ()))
  else
  some (.inl (w64 (s12+1)))
 else
  some (.inr (.inl ()))
def van_Times (a0:VaTrain) (a1:(List Int)) (a2:Int):Option ((List Span)×Int) :=
 (van_Check a0).bind fun x1 =>
 if (x1.2.2 != 0)=true then
  some (([]:List Span),x1.2.2)
 else
  if ((List.length a1:Int) != (List.length a0.Crates:Int))=true then
  some (([]:List Span),3)
  else
  (van_outside (-1) (w64 ((List.length a0.Vans:Int) - 1)) a1).bind fun x4 =>
  if x4=true then
   some (([]:List Span),4)
  else
   (loop (van_Times_L1 a1) (0,(IArr.zero 6))).bind fun (o11:(IArr 6)) =>
   (loop (van_Times_L2 a0 a1 o11) 0).bind fun (o17:(Unit⊕Unit)) =>
   match o17 with
   | (.inl vo17_0) =>
   (van_outside 0 (w64 ((List.length a0.Vans:Int) - 1)) [a2]).bind fun x18 =>
   if x18=true then
    some (([]:List Span),4)
   else
    (van_train_times (van_train.mk a0) o11 a2).bind fun x20 =>
    some (x20,0)
   | (.inr vo17_1) =>
   some (([]:List Span),9)
theorem ok_van_Times {c:Sc} {H:AHeap} {a0:VaTrain} {a1:(List Int)} {a2:Int} {r:((List Span)×Int)} (h:van_Times a0 a1 a2=some r) :
  CallE tab c H (.fn (.func 21) [] []) [(.agg (c_VaTrain a0)),(.seq 1 (List.map cI a1)),.i a2] [(.seq 2 (List.map c_Span r.1)),.i r.2]:= by
 unfold van_Times at h
 refine cE rfl rfl<|sg 0 rfl<|ow_q (o_box (cs:=c_VaTrain a0) rfl rfl rfl) rfl<|qm rfl<|qm rfl<|es (ra3 rfl rfl rfl)<|sg 1 rfl<|ow_q (o_loadW rfl rfl rfl) rfl<|qm rfl<|og_inline (as2:=[(.agg (c_VaTrain a0)),(.seq 1 (List.map cI a1))]) (H1:=(H++[(.cells (c_VaTrain a0)),.dead])) rfl rfl (fa_cons (fa_agg rfl) (fa_cons rfl fa_nil)) rfl rfl rfl (len_loc rfl)<|sg 2 rfl<|ow_q (o_box (cs:=c_VaTrain a0) rfl rfl rfl) rfl<|qm rfl<|ow_q (o_alloc (zs:=(cA .i64) (IArr.zero 6))) rfl<|qm rfl<|es (ra3 rfl rfl rfl)<|s0<|ow_q (o_loadW rfl rfl rfl) rfl<|og_inline (as2:=[(.agg (c_VaTrain a0))]) (H1:=(H++[(.cells (c_VaTrain a0)),.dead,(.cells (c_VaTrain a0)),(.cells ((cA .i64) (IArr.zero 6)))])) rfl rfl (fa_cons (fa_agg rfl) fa_nil) rfl rfl rfl (len_loc rfl)<|sg 4 rfl<|ow_q (o_box (cs:=c_VaTrain a0) rfl rfl rfl) rfl<|qm rfl<|qm rfl<|es (ra1 rfl)<|w_seq<|s0<|oB h fun x1 hx1 h=>ow_q (o_loadW rfl rfl rfl) rfl<|ow_call (rs:=[.i x1.1,.i x1.2.1,.i x1.2.2]) rfl rfl (fa_cons (fa_agg rfl) fa_nil) ((ok_van_Check hx1).frz)<|qm rfl<|ow_q (o_extract rfl rfl) rfl<|ow_q (o_extract rfl rfl) rfl<|ow_q (o_extract rfl rfl) rfl<|qm rfl<|qm rfl<|qm rfl<|es (ra2 rfl rfl)<|s0<|qm rfl<|ow_q (b_neq rfl rfl) rfl<|es (ra3 rfl rfl rfl)<|wi h rfl (fun hc2 h=>?_) fun hc2 h=>?_
 ·refine s0<|qm rfl<|qm rfl<|qm rfl<|es (ra2 rfl rfl)<|w_ret<|InlQ.mk trivial ⟨_,_,_,[(.lit (.pointer none)),.i x1.2.2],_,(rs_tmp rfl (rs_tmp rfl rs_nil)),(ov_cons rfl (ov_cons rfl ov_nil)),(in_cut (bdL_cons bd_lit (bdL_cons bd_lit bdL_nil)) (fz_cons rfl (fz_cons rfl fz_nil)) (take_loc _ _ _)),?_⟩
  refine qm rfl<|ow_q (o_extract rfl rfl) rfl<|ow_q (o_extract rfl rfl) rfl<|qm rfl<|qm rfl<|es (ra5 rfl rfl rfl rfl rfl)<|w_seq<|w_block<|s0<|qm rfl<|ow_q (b_neq rfl rfl) rfl<|qm rfl<|es (ra6 rfl rfl rfl rfl rfl rfl)<|w_condT rfl hc2<|s0<|ow_q (o_loadA (kk:=.i64) (v:=(IArr.zero 6)) rfl rfl) rfl<|qm rfl<|ow_r (o_storeA (kk:=.i64) (u:=(IArr.zero 6)) (v:=(IArr.zero 6)) rfl rfl rfl) rfl<|qm rfl<|qm rfl<|es (ra3 rfl rfl rfl)<|w_ret<|InlQ.mk trivial ⟨_,_,_,[(.lit (.pointer none)),(.agg ((cA .i64) (IArr.zero 6))),.i x1.2.2],_,(rs_tmp rfl (rs_cell (o_loadA (kk:=.i64) rfl rfl) (rs_tmp rfl rs_nil))),(ov_cons rfl (ov_cons ov_arr (ov_cons rfl ov_nil))),(in_cut (bdL_cons bd_lit (bdL_cons bd_arr (bdL_cons bd_lit bdL_nil))) (fz_cons rfl (fz_cons fz_arr (fz_cons rfl fz_nil))) (take_loc _ _ _)),?_⟩
  refine qm rfl<|ow_q (o_extract rfl rfl) rfl<|ow_q (o_extract rfl rfl) rfl<|ow_q (o_extract rfl rfl) rfl<|ow_q (o_alloc (zs:=(cA .i64) (IArr.zero 6))) rfl<|qm rfl<|ow_r (o_storeA (kk:=.i64) (u:=(IArr.zero 6)) (v:=(IArr.zero 6)) rfl rfl rfl) rfl<|qm rfl<|es (ra5 rfl rfl rfl rfl rfl)<|w_seq<|w_block<|s0<|qm rfl<|ow_q (b_neq rfl rfl) rfl<|qm rfl<|es (ra6 rfl rfl rfl rfl rfl rfl)<|w_condT rfl hc2<|s0<|qm rfl<|qm rfl<|qm rfl<|es (ra2 rfl rfl)<|w_ret ?_
  obtain rfl:=os h
  exact retq trivial (rs_tmp rfl (rs_tmp rfl rs_nil)) (ov_cons rfl (ov_cons rfl ov_nil)) (bdL_cons bd_seq (bdL_cons bd_lit bdL_nil))
 ·refine w_skip<|sg 5 rfl<|ow_q (o_loadW rfl rfl rfl) rfl<|ow_q o_mkmap rfl<|ow_q (o_build (cs:=[(.seq 4 (List.map c_VaVan a0.Vans)),.i a0.Stops,.i a0.Handle,(.seq 4 (List.map c_VaCrate a0.Crates)),(.seq 2 (List.map c_VaPair a0.Apart)),(.mp (H.length + 5))]) rfl rfl) rfl<|ow_q (o_box (cs:=[(.seq 4 (List.map c_VaVan a0.Vans)),.i a0.Stops,.i a0.Handle,(.seq 4 (List.map c_VaCrate a0.Crates)),(.seq 2 (List.map c_VaPair a0.Apart)),(.mp (H.length + 5))]) rfl rfl rfl) rfl<|qm rfl<|qm rfl<|es (ra2 rfl rfl)<|w_ret<|InlQ.mk trivial ⟨_,_,_,[(.ptr (H.length + 6) 0),.i 0],_,(rs_tmp rfl (rs_tmp rfl rs_nil)),(ov_cons rfl (ov_cons rfl ov_nil)),(in_keep (bdf_here (bdf_ptr rfl)) (fz_cons rfl (fz_cons rfl fz_nil))),?_⟩
  refine qm rfl<|ow_q (o_extract rfl rfl) rfl<|ow_q (o_extract rfl rfl) rfl<|qm rfl<|qm rfl<|es (ra5 rfl rfl rfl rfl rfl)<|w_seq<|w_block<|s0<|qm rfl<|ow_q (o_bin (v:=(.b false)) rfl rfl rfl) rfl<|qm rfl<|es (ra6 rfl rfl rfl rfl rfl rfl)<|w_condF rfl rfl<|s0<|qm rfl<|ow_q (o_lenL (f:=cI) rfl) rfl<|ow_q (o_faP rfl) rfl<|ow_q (o_load rfl rfl rfl) rfl<|ow_q (o_lenL (f:=c_VaCrate) rfl) rfl<|ow_q (b_neq rfl rfl) rfl<|qm rfl<|es (ra5 rfl rfl rfl rfl rfl)<|wi h rfl (fun hc3 h=>?_) fun hc3 h=>?_
  ·refine s0<|ow_q (o_loadA (kk:=.i64) (v:=(IArr.zero 6)) rfl rfl) rfl<|qm rfl<|ow_r (o_storeA (kk:=.i64) (u:=(IArr.zero 6)) (v:=(IArr.zero 6)) rfl rfl rfl) rfl<|qm rfl<|es (ra3 rfl rfl rfl)<|w_ret<|InlQ.mk trivial ⟨_,_,_,[(.lit (.pointer none)),(.agg ((cA .i64) (IArr.zero 6))),.i 3],_,(rs_tmp rfl (rs_cell (o_loadA (kk:=.i64) rfl rfl) (rs_tmp rfl rs_nil))),(ov_cons rfl (ov_cons ov_arr (ov_cons rfl ov_nil))),(in_cut (bdL_cons bd_lit (bdL_cons bd_arr (bdL_cons bd_lit bdL_nil))) (fz_cons rfl (fz_cons fz_arr (fz_cons rfl fz_nil))) (take_loc _ _ _)),?_⟩
   refine qm rfl<|ow_q (o_extract rfl rfl) rfl<|ow_q (o_extract rfl rfl) rfl<|ow_q (o_extract rfl rfl) rfl<|ow_q (o_alloc (zs:=(cA .i64) (IArr.zero 6))) rfl<|qm rfl<|ow_r (o_storeA (kk:=.i64) (u:=(IArr.zero 6)) (v:=(IArr.zero 6)) rfl rfl rfl) rfl<|qm rfl<|es (ra5 rfl rfl rfl rfl rfl)<|w_seq<|w_block<|s0<|qm rfl<|ow_q (o_bin (v:=(.b true)) rfl rfl rfl) rfl<|qm rfl<|es (ra6 rfl rfl rfl rfl rfl rfl)<|w_condT rfl rfl<|s0<|qm rfl<|qm rfl<|qm rfl<|es (ra2 rfl rfl)<|w_ret ?_
   obtain rfl:=os h
   exact retq trivial (rs_tmp rfl (rs_tmp rfl rs_nil)) (ov_cons rfl (ov_cons rfl ov_nil)) (bdL_cons bd_seq (bdL_cons bd_lit bdL_nil))
  ·refine s0<|oB h fun x4 hx4 h=>ow_q (o_faP rfl) rfl<|ow_q (o_load rfl rfl rfl) rfl<|ow_q (o_lenL (f:=c_VaVan) rfl) rfl<|ow_q (b_sub rfl rfl) rfl<|qm rfl<|ow_call (rs:=[.b x4]) rfl rfl (fa_cons rfl (fa_cons rfl (fa_cons rfl fa_nil))) ((ok_van_outside hx4).frz)<|qm rfl<|es (ra4 rfl rfl rfl rfl)<|wi h rfl (fun hc5 h=>?_) fun hc5 h=>?_
   ·refine s0<|ow_q (o_loadA (kk:=.i64) (v:=(IArr.zero 6)) rfl rfl) rfl<|qm rfl<|ow_r (o_storeA (kk:=.i64) (u:=(IArr.zero 6)) (v:=(IArr.zero 6)) rfl rfl rfl) rfl<|qm rfl<|es (ra3 rfl rfl rfl)<|w_ret<|InlQ.mk trivial ⟨_,_,_,[(.lit (.pointer none)),(.agg ((cA .i64) (IArr.zero 6))),.i 4],_,(rs_tmp rfl (rs_cell (o_loadA (kk:=.i64) rfl rfl) (rs_tmp rfl rs_nil))),(ov_cons rfl (ov_cons ov_arr (ov_cons rfl ov_nil))),(in_cut (bdL_cons bd_lit (bdL_cons bd_arr (bdL_cons bd_lit bdL_nil))) (fz_cons rfl (fz_cons fz_arr (fz_cons rfl fz_nil))) (take_loc _ _ _)),?_⟩
    refine qm rfl<|ow_q (o_extract rfl rfl) rfl<|ow_q (o_extract rfl rfl) rfl<|ow_q (o_extract rfl rfl) rfl<|ow_q (o_alloc (zs:=(cA .i64) (IArr.zero 6))) rfl<|qm rfl<|ow_r (o_storeA (kk:=.i64) (u:=(IArr.zero 6)) (v:=(IArr.zero 6)) rfl rfl rfl) rfl<|qm rfl<|es (ra5 rfl rfl rfl rfl rfl)<|w_seq<|w_block<|s0<|qm rfl<|ow_q (o_bin (v:=(.b true)) rfl rfl rfl) rfl<|qm rfl<|es (ra6 rfl rfl rfl rfl rfl rfl)<|w_condT rfl rfl<|s0<|qm rfl<|qm rfl<|qm rfl<|es (ra2 rfl rfl)<|w_ret ?_
    obtain rfl:=os h
    exact retq trivial (rs_tmp rfl (rs_tmp rfl rs_nil)) (ov_cons rfl (ov_cons rfl ov_nil)) (bdL_cons bd_seq (bdL_cons bd_lit bdL_nil))
   ·refine w_skip<|w_seq<|s0<|qm rfl<|ow_q (o_lenL (f:=cI) rfl) rfl<|qm rfl<|es (ra6 rfl rfl rfl rfl rfl rfl)<|w_block<|oB h fun o11 ho11 h=>wl (fun s6=>[(1,(.seq 1 (List.map cI a1))),(4,(.ptr (H.length + 6) 0)),(5,(.ptr (H.length + 3) 0)),(36,(.seq 1 (List.map cI a1))),(37,(.i (List.length a1:Int))),(38,.i s6.1)]) (fun (q7:Unit) s6=>[(.cells (c_VaTrain a0)),.dead,(.cells (c_VaTrain a0)),(.cells ((cA .i64) s6.2)),(.cells (c_VaTrain a0)),(.map []),(.cells [(.seq 4 (List.map c_VaVan a0.Vans)),.i a0.Stops,.i a0.Handle,(.seq 4 (List.map c_VaCrate a0.Crates)),(.seq 2 (List.map c_VaPair a0.Apart)),(.mp (H.length + 5))])]) 7 (fun r e s' H'=>PX 1 [(1,(.seq 1 (List.map cI a1))),(4,(.ptr (H.length + 6) 0)),(5,(.ptr (H.length + 3) 0))] (H++[(.cells (c_VaTrain a0)),.dead,(.cells (c_VaTrain a0)),(.cells ((cA .i64) r)),(.cells (c_VaTrain a0)),(.map []),(.cells [(.seq 4 (List.map c_VaVan a0.Vans)),.i a0.Stops,.i a0.Handle,(.seq 4 (List.map c_VaCrate a0.Crates)),(.seq 2 (List.map c_VaPair a0.Apart)),(.mp (H.length + 5))])]) e s' H') () ho11 rfl rfl (fun _ _=>rfl) (fun _=>rfl) rfl (fun s6=>(bdc bd_seq (bdc (bd_ptr rfl) (bdc (bd_ptr rfl) (bdc bd_seq (bdc bd_lit (bdc bd_lit bdn))))))) (fun q7 s6 ys6 hs6=>?_) ?_
    ·unfold van_Times_L1 at hs6
     refine s0<|ow_q (b_lss rfl rfl) rfl<|es (ra7 rfl rfl rfl rfl rfl rfl rfl)<|w_seq<|wi hs6 rfl (fun hc8 hs6=>?_) fun hc8 hs6=>?_
     ·refine w_skip<|w_seq<|w_block<|s0<|oB hs6 fun x9 hx9 hs6=>qm rfl<|ow_q (o_idxS (f:=cI) rfl rfl hx9) rfl<|ow_q (o_loadC rfl rfl) rfl<|qm rfl<|qm rfl<|es (ra8 rfl rfl rfl rfl rfl rfl rfl rfl)<|r0<|oB hs6 fun x10 hx10 hs6=>qm rfl<|qm rfl<|ow_q (b_add rfl rfl) rfl<|ow_q (o_idxPA rfl rfl hx10) rfl<|ow_r (o_storePA rfl rfl rfl hx10) rfl<|en (ra6 rfl rfl rfl rfl rfl rfl)<|r0<|ow_q (b_add rfl rfl) rfl<|qm rfl<|en (ra6 rfl rfl rfl rfl rfl rfl) ?_
      cases hs6
      exact lnT () rfl (su6 rfl rfl rfl rfl rfl rfl)
     ·refine w_exit ?_
      obtain rfl:=os hs6
      exact lx rfl px (su3 rfl rfl rfl)
    ·rintro e s' H' - ⟨rfl,rfl,rfl⟩
     refine w_seq<|s0<|qm rfl<|ow_q (o_lenL (f:=cI) rfl) rfl<|qm rfl<|es (ra4 rfl rfl rfl rfl)<|w_block<|oB h fun o17 ho17 h=>wl (fun s12=>[(4,(.ptr (H.length+6) 0)),(5,(.ptr (H.length+3) 0)),(49,(.i (List.length a1:Int))),(50,.i s12)]) (fun (q13:Unit) s12=>[(.cells (c_VaTrain a0)),.dead,(.cells (c_VaTrain a0)),(.cells ((cA .i64) o11)),(.cells (c_VaTrain a0)),(.map []),(.cells [(.seq 4 (List.map c_VaVan a0.Vans)),.i a0.Stops,.i a0.Handle,(.seq 4 (List.map c_VaCrate a0.Crates)),(.seq 2 (List.map c_VaPair a0.Apart)),(.mp (H.length+5))])]) 7 (fun r e s' H'=>(match r with | (.inl v)=>PX 3 [(4,(.ptr (H.length+6) 0)),(5,(.ptr (H.length+3) 0))] (H++[(.cells (c_VaTrain a0)),.dead,(.cells (c_VaTrain a0)),(.cells ((cA .i64) o11)),(.cells (c_VaTrain a0)),(.map []),(.cells [(.seq 4 (List.map c_VaVan a0.Vans)),.i a0.Stops,.i a0.Handle,(.seq 4 (List.map c_VaCrate a0.Crates)),(.seq 2 (List.map c_VaPair a0.Apart)),(.mp (H.length+5))])]) e s' H' | (.inr v)=>e = .ret∧s'=[(4,(.lit (.pointer none))),(5,(.ptr (H.length+3) 0)),(6,.i 9)]∧H'=(H++[(.cells (c_VaTrain a0)),.dead,(.cells (c_VaTrain a0)),(.cells ((cA .i64) o11)),(.cells (c_VaTrain a0)),(.map []),(.cells [(.seq 4 (List.map c_VaVan a0.Vans)),.i a0.Stops,.i a0.Handle,(.seq 4 (List.map c_VaCrate a0.Crates)),(.seq 2 (List.map c_VaPair a0.Apart)),(.mp (H.length+5))])]):Prop)) () ho17 rfl rfl (fun _ _=>rfl) (fun _=>rfl) rfl (fun s12=>(bdc (bd_ptr rfl) (bdc (bd_ptr rfl) (bdc bd_lit (bdc bd_lit bdn))))) (fun q13 s12 ys12 hs12=>?_) ?_
     ·unfold van_Times_L2 at hs12
      refine s0<|ow_q (b_lss rfl rfl) rfl<|es (ra5 rfl rfl rfl rfl rfl)<|w_seq<|wi hs12 rfl (fun hc14 hs12=>?_) fun hc14 hs12=>?_
      ·refine w_skip<|w_seq<|w_block<|s0<|qm rfl<|qm rfl<|es (ra5 rfl rfl rfl rfl rfl)<|s0<|oB hs12 fun x15 hx15 hs12=>qm rfl<|ow_q (o_loadA (kk:=.i64) (v:=o11) rfl rfl) rfl<|qm rfl<|ow_call (rs:=[.b x15]) rfl rfl (fa_cons rfl (fa_cons fa_arr (fa_cons rfl fa_nil))) ((ok_van_train_allowed (hcells_loc rfl) hx15).frz)<|ow_q (u_not rfl) rfl<|es (ra5 rfl rfl rfl rfl rfl)<|wi hs12 rfl (fun hc16 hs12=>?_) fun hc16 hs12=>?_
       ·refine s0<|ow_q (o_loadA (kk:=.i64) (v:=o11) rfl rfl) rfl<|qm rfl<|ow_r (o_storeA (kk:=.i64) (u:=o11) (v:=o11) rfl rfl rfl) rfl<|qm rfl<|es (ra3 rfl rfl rfl)<|w_ret ?_
        obtain rfl:=os hs12
        exact lx rfl (And.intro rfl (And.intro rfl rfl)) (su3 rfl rfl rfl)
       ·refine w_skip<|r0<|ow_q (b_add rfl rfl) rfl<|qm rfl<|en (ra4 rfl rfl rfl rfl) ?_
        cases hs12
        exact lnT () rfl (su4 rfl rfl rfl rfl)
      ·refine w_exit ?_
       obtain rfl:=os hs12
       exact lx rfl px (su2 rfl rfl)
     ·rcases o17 with vo17_0 | vo17_1
      ·rintro e s' H' - ⟨rfl,rfl,rfl⟩
       refine s0<|qm rfl<|ow_q (o_loadA (kk:=.i64) (v:=o11) rfl rfl) rfl<|qm rfl<|ow_r (o_storeA (kk:=.i64) (u:=o11) (v:=o11) rfl rfl rfl) rfl<|qm rfl<|es (ra3 rfl rfl rfl)<|w_ret<|InlQ.mk trivial ⟨_,_,_,[(.ptr (H.length+6) 0),(.agg ((cA .i64) o11)),.i 0],_,(rs_tmp rfl (rs_cell (o_loadA (kk:=.i64) rfl rfl) (rs_tmp rfl rs_nil))),(ov_cons rfl (ov_cons ov_arr (ov_cons rfl ov_nil))),(in_keep (bdf_here (bdf_ptr rfl)) (fz_cons rfl (fz_cons fz_arr (fz_cons rfl fz_nil)))),?_⟩
       refine qm rfl<|ow_q (o_extract rfl rfl) rfl<|ow_q (o_extract rfl rfl) rfl<|ow_q (o_extract rfl rfl) rfl<|ow_q (o_alloc (zs:=(cA .i64) (IArr.zero 6))) rfl<|qm rfl<|ow_r (o_storeA (kk:=.i64) (u:=(IArr.zero 6)) (v:=o11) rfl rfl rfl) rfl<|qm rfl<|es (ra5 rfl rfl rfl rfl rfl)<|w_seq<|w_block<|s0<|qm rfl<|ow_q (o_bin (v:=(.b false)) rfl rfl rfl) rfl<|qm rfl<|es (ra6 rfl rfl rfl rfl rfl rfl)<|w_condF rfl rfl<|s0<|oB h fun x18 hx18 h=>ow_q (o_faP rfl) rfl<|ow_q (o_load rfl rfl rfl) rfl<|ow_q (o_lenL (f:=c_VaVan) rfl) rfl<|ow_q (b_sub rfl rfl) rfl<|qm rfl<|ow_q (o_lits (rows:=List.map cI [a2]) rfl rfl (frzR_map (fun _=>rfl) _)) rfl<|ow_call (rs:=[.b x18]) rfl rfl (fa_cons rfl (fa_cons rfl (fa_cons rfl fa_nil))) ((ok_van_outside hx18).frz)<|qm rfl<|es (ra4 rfl rfl rfl rfl)<|wi h rfl (fun hc19 h=>?_) fun hc19 h=>?_
       ·refine s0<|qm rfl<|qm rfl<|es (ra2 rfl rfl)<|w_ret ?_
        obtain rfl:=os h
        exact retq trivial (rs_tmp rfl (rs_tmp rfl rs_nil)) (ov_cons rfl (ov_cons rfl ov_nil)) (bdL_cons bd_seq (bdL_cons bd_lit bdL_nil))
       ·refine w_skip<|s0<|oB h fun x20 hx20 h=>qm rfl<|ow_q (o_loadA (kk:=.i64) (v:=o11) rfl rfl) rfl<|qm rfl<|ow_call (rs:=[(.seq 2 (List.map c_Span x20))]) rfl rfl (fa_cons rfl (fa_cons fa_arr (fa_cons rfl fa_nil))) ((ok_van_train_times (hcells_loc rfl) hx20).frz)<|qm rfl<|qm rfl<|es (ra2 rfl rfl)<|w_ret ?_
        obtain rfl:=os h
        exact retq trivial (rs_tmp rfl (rs_tmp rfl rs_nil)) (ov_cons rfl (ov_cons rfl ov_nil)) (bdL_cons bd_seq (bdL_cons bd_lit bdL_nil))
      ·rintro e s' H' - ⟨rfl,rfl,rfl⟩
       refine InlQ.mk trivial ⟨_,_,_,[(.lit (.pointer none)),(.agg ((cA .i64) o11)),.i 9],_,(rs_tmp rfl (rs_cell (o_loadA (kk:=.i64) rfl rfl) (rs_tmp rfl rs_nil))),(ov_cons rfl (ov_cons ov_arr (ov_cons rfl ov_nil))),(in_cut (bdL_cons bd_lit (bdL_cons bd_arr (bdL_cons bd_lit bdL_nil))) (fz_cons rfl (fz_cons fz_arr (fz_cons rfl fz_nil))) (take_loc _ _ _)),?_⟩
       refine qm rfl<|ow_q (o_extract rfl rfl) rfl<|ow_q (o_extract rfl rfl) rfl<|ow_q (o_extract rfl rfl) rfl<|ow_q (o_alloc (zs:=(cA .i64) (IArr.zero 6))) rfl<|qm rfl<|ow_r (o_storeA (kk:=.i64) (u:=(IArr.zero 6)) (v:=o11) rfl rfl rfl) rfl<|qm rfl<|es (ra5 rfl rfl rfl rfl rfl)<|w_seq<|w_block<|s0<|qm rfl<|ow_q (o_bin (v:=(.b true)) rfl rfl rfl) rfl<|qm rfl<|es (ra6 rfl rfl rfl rfl rfl rfl)<|w_condT rfl rfl<|s0<|qm rfl<|qm rfl<|qm rfl<|es (ra2 rfl rfl)<|w_ret ?_
       obtain rfl:=os h
       exact retq trivial (rs_tmp rfl (rs_tmp rfl rs_nil)) (ov_cons rfl (ov_cons rfl ov_nil)) (bdL_cons bd_seq (bdL_cons bd_lit bdL_nil))
theorem fr3:c3.free=true:= by kernel_rfl
theorem fr4:c4.free=true:= by kernel_rfl
theorem fr8:c8.free=true:= by kernel_rfl
theorem fr10:c10.free=true:= by kernel_rfl
theorem fr11:c11.free=true:= by kernel_rfl
theorem fr16:c16.free=true:= by kernel_rfl
theorem fr17:c17.free=true:= by kernel_rfl
theorem fr18:c18.free=true:= by kernel_rfl
theorem fr19:c19.free=true:= by kernel_rfl
theorem fr20:c20.free=true:= by kernel_rfl
theorem fr21:c21.free=true:= by kernel_rfl
theorem fr22:c22.free=true:= by kernel_rfl
theorem fr23:c23.free=true:= by kernel_rfl
theorem fr24:c24.free=true:= by kernel_rfl
theorem fr25:c25.free=true:= by kernel_rfl
theorem fr26:c26.free=true:= by kernel_rfl
theorem fr27:c27.free=true:= by kernel_rfl
theorem fr28:c28.free=true:= by kernel_rfl
theorem fr29:c29.free=true:= by kernel_rfl
theorem fr31:c31.free=true:= by kernel_rfl
theorem fr33:c33.free=true:= by kernel_rfl
theorem fr35:c35.free=true:= by kernel_rfl
theorem fr37:c37.free=true:= by kernel_rfl
theorem fr38:c38.free=true:= by kernel_rfl
theorem fr39:c39.free=true:= by kernel_rfl
theorem fr40:c40.free=true:= by kernel_rfl
theorem fr41:c41.free=true:= by kernel_rfl
theorem fr42:c42.free=true:= by kernel_rfl
theorem fr43:c43.free=true:= by kernel_rfl
theorem fr44:c44.free=true:= by kernel_rfl
theorem fr45:c45.free=true:= by kernel_rfl
theorem fr46:c46.free=true:= by kernel_rfl
theorem fr56:c56.free=true:= by kernel_rfl
theorem fr57:c57.free=true:= by kernel_rfl
theorem fr58:c58.free=true:= by kernel_rfl
theorem fr59:c59.free=true:= by kernel_rfl
theorem fr60:c60.free=true:= by kernel_rfl
theorem fr61:c61.free=true:= by kernel_rfl
theorem fr62:c62.free=true:= by kernel_rfl
theorem fr63:c63.free=true:= by kernel_rfl
theorem fr64:c64.free=true:= by kernel_rfl
theorem fr65:c65.free=true:= by kernel_rfl
theorem fr66:c66.free=true:= by kernel_rfl
theorem fr67:c67.free=true:= by kernel_rfl
theorem fr68:c68.free=true:= by kernel_rfl
theorem fr69:c69.free=true:= by kernel_rfl
theorem fr70:c70.free=true:= by kernel_rfl
theorem fr71:c71.free=true:= by kernel_rfl
theorem fr72:c72.free=true:= by kernel_rfl
theorem fr73:c73.free=true:= by kernel_rfl
theorem fr74:c74.free=true:= by kernel_rfl
theorem fr75:c75.free=true:= by kernel_rfl
theorem fr76:c76.free=true:= by kernel_rfl
theorem fr77:c77.free=true:= by kernel_rfl
theorem fr78:c78.free=true:= by kernel_rfl
theorem fr80:c80.free=true:= by kernel_rfl
theorem fr82:c82.free=true:= by kernel_rfl
theorem fr83:c83.free=true:= by kernel_rfl
theorem fr84:c84.free=true:= by kernel_rfl
theorem fr86:c86.free=true:= by kernel_rfl
theorem fr87:c87.free=true:= by kernel_rfl
theorem fr88:c88.free=true:= by kernel_rfl
theorem fr90:c90.free=true:= by kernel_rfl
theorem fr91:c91.free=true:= by kernel_rfl
theorem fr92:c92.free=true:= by kernel_rfl
theorem fr93:c93.free=true:= by kernel_rfl
theorem fr94:c94.free=true:= by kernel_rfl
theorem fr95:c95.free=true:= by kernel_rfl
theorem fr96:c96.free=true:= by kernel_rfl
theorem fr97:c97.free=true:= by kernel_rfl
theorem fr98:c98.free=true:= by kernel_rfl
theorem fr99:c99.free=true:= by kernel_rfl
theorem fr100:c100.free=true:= by kernel_rfl
theorem fr101:c101.free=true:= by kernel_rfl
theorem fr102:c102.free=true:= by kernel_rfl
theorem fr103:c103.free=true:= by kernel_rfl
theorem fr104:c104.free=true:= by kernel_rfl
theorem fr105:c105.free=true:= by kernel_rfl
theorem fr106:c106.free=true:= by kernel_rfl
theorem fr107:c107.free=true:= by kernel_rfl
theorem fr108:c108.free=true:= by kernel_rfl
theorem fr109:c109.free=true:= by kernel_rfl
theorem fr110:c110.free=true:= by kernel_rfl
theorem fr111:c111.free=true:= by kernel_rfl
theorem fr112:c112.free=true:= by kernel_rfl
theorem fr113:c113.free=true:= by kernel_rfl
theorem fr114:c114.free=true:= by kernel_rfl
theorem fr115:c115.free=true:= by kernel_rfl
theorem fr116:c116.free=true:= by kernel_rfl
theorem fr117:c117.free=true:= by kernel_rfl
theorem fr118:c118.free=true:= by kernel_rfl
theorem freeTab:FreeTab tab:= by
 intro i af h
 unfold tab at h
 split at h
 ·cases h; exact fr3
 ·cases h; exact fr4
 ·cases h; exact fr8
 ·cases h; exact fr10
 ·cases h; exact fr11
 ·cases h; exact fr16
 ·cases h; exact fr17
 ·cases h; exact fr18
 ·cases h; exact fr19
 ·cases h; exact fr20
 ·cases h; exact fr21
 ·cases h; exact fr22
 ·cases h; exact fr23
 ·cases h; exact fr24
 ·cases h; exact fr25
 ·cases h; exact fr26
 ·cases h; exact fr27
 ·cases h; exact fr28
 ·cases h; exact fr29
 ·cases h; exact fr31
 ·cases h; exact fr33
 ·cases h; exact fr35
 ·cases h; exact fr37
 ·cases h; exact fr38
 ·cases h; exact fr39
 ·cases h; exact fr40
 ·cases h; exact fr41
 ·cases h; exact fr42
 ·cases h; exact fr43
 ·cases h; exact fr44
 ·cases h; exact fr45
 ·cases h; exact fr46
 ·cases h; exact fr56
 ·cases h; exact fr57
 ·cases h; exact fr58
 ·cases h; exact fr59
 ·cases h; exact fr60
 ·cases h; exact fr61
 ·cases h; exact fr62
 ·cases h; exact fr63
 ·cases h; exact fr64
 ·cases h; exact fr65
 ·cases h; exact fr66
 ·cases h; exact fr67
 ·cases h; exact fr68
 ·cases h; exact fr69
 ·cases h; exact fr70
 ·cases h; exact fr71
 ·cases h; exact fr72
 ·cases h; exact fr73
 ·cases h; exact fr74
 ·cases h; exact fr75
 ·cases h; exact fr76
 ·cases h; exact fr77
 ·cases h; exact fr78
 ·cases h; exact fr80
 ·cases h; exact fr82
 ·cases h; exact fr83
 ·cases h; exact fr84
 ·cases h; exact fr86
 ·cases h; exact fr87
 ·cases h; exact fr88
 ·cases h; exact fr90
 ·cases h; exact fr91
 ·cases h; exact fr92
 ·cases h; exact fr93
 ·cases h; exact fr94
 ·cases h; exact fr95
 ·cases h; exact fr96
 ·cases h; exact fr97
 ·cases h; exact fr98
 ·cases h; exact fr99
 ·cases h; exact fr100
 ·cases h; exact fr101
 ·cases h; exact fr102
 ·cases h; exact fr103
 ·cases h; exact fr104
 ·cases h; exact fr105
 ·cases h; exact fr106
 ·cases h; exact fr107
 ·cases h; exact fr108
 ·cases h; exact fr109
 ·cases h; exact fr110
 ·cases h; exact fr111
 ·cases h; exact fr112
 ·cases h; exact fr113
 ·cases h; exact fr114
 ·cases h; exact fr115
 ·cases h; exact fr116
 ·cases h; exact fr117
 ·cases h; exact fr118
 ·cases h
end Vn
end
section
namespace Vn
open Go Am Go.Proofs.Ytjjmechghfjbmaa.Cd
def law06_Awake:Option Bool:=some true
theorem ok_law06_Awake {c:Sc} {H:AHeap} (hs:scvB c H=true) {r:Bool} (h:law06_Awake=some r):CallE tab c H (.fn (.func 26) [] []) [] [.lit (.bool r)]:= by
 obtain rfl:=Option.some.inj h
 exact ⟨CallR.shift freeTab Go.Proofs.Ytjjmechghfjbmaa.Rn.t1539 rfl rfl hs,bdL_cons bd_lit bdL_nil⟩
end Vn
end
section
set_option maxRecDepth 100000
set_option maxHeartbeats 0
namespace Vn
open Go Am Go.Proofs.Ytjjmechghfjbmaa.Cd
end Vn
end
