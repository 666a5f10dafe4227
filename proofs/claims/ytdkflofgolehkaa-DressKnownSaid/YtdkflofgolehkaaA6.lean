/- Texts that the claim stands on, one behind another. -/
import Derived.Test.YtdkflofgolehkaaA5
set_option linter.unusedVariables false
set_option linter.unusedSimpArgs false
set_option linter.unnecessarySimpa false
section
set_option maxRecDepth 100000
set_option maxHeartbeats 0
namespace Ds
open Go Am Go.Proofs.Ytdkflofgolehkaa.Cd
def A1z :Option Bool :=
 (A1k 2).bind fun x1 =>
 (A1k 1).bind fun x2 =>
 (A1f x1 0 0).bind fun x3 =>
 (A27 x1 [2,0,1]).bind fun x4 =>
 (A28 x1 [1,0,2]).bind fun x5 =>
 (A26 x1).bind fun x6 =>
 (A26 x2).bind fun x7 =>
 (A7y x1 2).bind fun x8 =>
 (A0n x1 1).bind fun x9 =>
 (A4t x2).bind fun x10 =>
 (A4s x2).bind fun x11 =>
 (if ((((((((((x3.2.2 == 0) && (x4.2 == 0)) && (x5.2 == 0)) && (x6.2.2 == 0)) && (x7.2.2 == 9)) && (x8.2 == 0)) && (x9.2 == 0)) && (x10.2 == 0)) && (x11.2.2 == 0)) && (x3.1 == 14)) = true then
  (P0 x3.2.1 [0,2]).bind fun x22 =>
  some x22
 else
  some false).bind fun x23 =>
 (if x23 = true then
  (P0 x4.1 [4,(-1)]).bind fun x25 =>
  some x25
 else
  some false).bind fun x26 =>
 (if (x26 && (x5.1 == 14)) = true then
  (P0 x6.1 [1,0,2]).bind fun x29 =>
  some x29
 else
  some false).bind fun x30 =>
 (if (x30 && (x6.2.1 == 14)) = true then
  (P0 x8.1 [2]).bind fun x33 =>
  some x33
 else
  some false).bind fun x34 =>
 (if (x34 && (x9.1 == 10)) = true then
  (P0 x10.1 [0]).bind fun x37 =>
  some x37
 else
  some false).bind fun x38 =>
 (if x38 = true then
  (P0 x11.1 [0,1]).bind fun x40 =>
  some x40
 else
  some false).bind fun x41 =>
 some (x41 && (x11.2.1 == 14))
theorem B1h {c:Sc} {H:A0} (hscv:O5 c H = true)  {r:Bool} (h:A1z  = some r) :
  F2 tab c H (.fn (.func 21) [] []) [] [.b r]:= by
 unfold A1z at h
 refine cE rfl rfl<|s0<|qm rfl<|es .n<|sg 0 rfl<|oB h fun x1 hx1 h=>oB h fun x2 hx2 h=>C2 (rs:=[(.agg (A7 x1))]) rfl rfl (A4 rfl B8) ((A2f hx1).frz)<|C2 (rs:=[(.agg (A7 x2))]) rfl rfl (A4 rfl B8) ((A2f hx2).frz)<|A1 D9 rfl<|A1 D9 rfl<|F8 (C4 (ds:=(A7 x1)) rfl rfl rfl rfl (C0 rfl) rfl) rfl<|F8 (C4 (ds:=(A7 x2)) rfl rfl rfl rfl (C0 rfl) rfl) rfl<|es (ra2 rfl rfl)<|s0<|oB h fun x3 hx3 h=>A1 (C5 rfl rfl rfl) rfl<|C2 (rs:=[.i x3.1,(.seq 1 (List.map cI x3.2.1)),.i x3.2.2]) rfl rfl (A4 (E4 rfl) (A4 rfl (A4 rfl B8))) ((A2e hx3).frz)<|qm rfl<|A1 (A6 rfl rfl) rfl<|A1 (A6 rfl rfl) rfl<|A1 (A6 rfl rfl) rfl<|qm rfl<|qm rfl<|qm rfl<|es (ra5 rfl rfl rfl rfl rfl)<|s0<|oB h fun x4 hx4 h=>A1 (C5 rfl rfl rfl) rfl<|A1 (I2 (rows:=List.map cI [2,0,1]) rfl rfl (E0 (fun _=>rfl) _)) rfl<|C2 (rs:=[(.seq 1 (List.map cI x4.1)),.i x4.2]) rfl rfl (A4 (E4 rfl) (A4 rfl B8)) ((A5e hx4).frz)<|qm rfl<|A1 (A6 rfl rfl) rfl<|A1 (A6 rfl rfl) rfl<|qm rfl<|qm rfl<|es (ra7 rfl rfl rfl rfl rfl rfl rfl)<|s0<|oB h fun x5 hx5 h=>A1 (C5 rfl rfl rfl) rfl<|A1 (I2 (rows:=List.map cI [1,0,2]) rfl rfl (E0 (fun _=>rfl) _)) rfl<|C2 (rs:=[.i x5.1,.i x5.2]) rfl rfl (A4 (E4 rfl) (A4 rfl B8)) ((A5f hx5).frz)<|qm rfl<|A1 (A6 rfl rfl) rfl<|A1 (A6 rfl rfl) rfl<|qm rfl<|qm rfl<|es (ra9 rfl rfl rfl rfl rfl rfl rfl rfl rfl)<|s0<|oB h fun x6 hx6 h=>A1 (C5 rfl rfl rfl) rfl<|C2 (rs:=[(.seq 1 (List.map cI x6.1)),.i x6.2.1,.i x6.2.2]) rfl rfl (A4 (E4 rfl) B8) ((A5d (A2h hscv) hx6).frz)<|qm rfl<|A1 (A6 rfl rfl) rfl<|A1 (A6 rfl rfl) rfl<|A1 (A6 rfl rfl) rfl<|qm rfl<|qm rfl<|qm rfl<|es (ra12 rfl rfl rfl rfl rfl rfl rfl rfl rfl rfl rfl rfl)<|s0 ?_
 refine oB h fun x7 hx7 h=>A1 (C5 rfl rfl rfl) rfl<|C2 (rs:=[(.seq 1 (List.map cI x7.1)),.i x7.2.1,.i x7.2.2]) rfl rfl (A4 (E4 rfl) B8) ((A5d (A2h hscv) hx7).frz)<|qm rfl<|A1 (A6 rfl rfl) rfl<|A1 (A6 rfl rfl) rfl<|A1 (A6 rfl rfl) rfl<|qm rfl<|qm rfl<|qm rfl<|es (ra13 rfl rfl rfl rfl rfl rfl rfl rfl rfl rfl rfl rfl rfl)<|s0<|oB h fun x8 hx8 h=>A1 (C5 rfl rfl rfl) rfl<|C2 (rs:=[(.seq 1 (List.map cI x8.1)),.i x8.2]) rfl rfl (A4 (E4 rfl) (A4 rfl B8)) (B4t (A2h hscv) hx8)<|qm rfl<|A1 (A6 rfl rfl) rfl<|A1 (A6 rfl rfl) rfl<|qm rfl<|qm rfl<|es (.k rfl (.k rfl (.k rfl (.k rfl (.k rfl (.k rfl (.k rfl (.k rfl (.k rfl (.k rfl (.k rfl (.k rfl (.k rfl (.k rfl (.k rfl .n)))))))))))))))<|s0<|oB h fun x9 hx9 h=>A1 (C5 rfl rfl rfl) rfl<|C2 (rs:=[.i x9.1,.i x9.2]) rfl rfl (A4 (E4 rfl) (A4 rfl B8)) ((A1m (A2h hscv) hx9).frz)<|qm rfl<|A1 (A6 rfl rfl) rfl<|A1 (A6 rfl rfl) rfl<|qm rfl<|qm rfl<|es (.k rfl (.k rfl (.k rfl (.k rfl (.k rfl (.k rfl (.k rfl (.k rfl (.k rfl (.k rfl (.k rfl (.k rfl (.k rfl (.k rfl (.k rfl (.k rfl .n))))))))))))))))<|s0<|oB h fun x10 hx10 h=>A1 (C5 rfl rfl rfl) rfl<|C2 (rs:=[(.seq 1 (List.map cI x10.1)),.i x10.2]) rfl rfl (A4 (E4 rfl) B8) ((A68 (A2h hscv) hx10).frz)<|qm rfl<|A1 (A6 rfl rfl) rfl<|A1 (A6 rfl rfl) rfl<|qm rfl<|qm rfl<|es (.k rfl (.k rfl (.k rfl (.k rfl (.k rfl (.k rfl (.k rfl (.k rfl (.k rfl (.k rfl (.k rfl (.k rfl (.k rfl (.k rfl (.k rfl (.k rfl (.k rfl (.k rfl .n))))))))))))))))))<|s0<|oB h fun x11 hx11 h=>A1 (C5 rfl rfl rfl) rfl<|C2 (rs:=[(.seq 1 (List.map cI x11.1)),.i x11.2.1,.i x11.2.2]) rfl rfl (A4 (E4 rfl) B8) ((A67 (A2h hscv) hx11).frz)<|qm rfl<|A1 (A6 rfl rfl) rfl<|A1 (A6 rfl rfl) rfl<|A1 (A6 rfl rfl) rfl<|qm rfl<|qm rfl<|qm rfl<|es (.k rfl (.k rfl (.k rfl (.k rfl (.k rfl (.k rfl (.k rfl (.k rfl (.k rfl (.k rfl (.k rfl (.k rfl (.k rfl (.k rfl (.k rfl (.k rfl (.k rfl (.k rfl (.k rfl (.k rfl .n))))))))))))))))))))<|s0<|oB h fun x23 hx23 h=>oB h fun x26 hx26 h=>oB h fun x30 hx30 h=>oB h fun x34 hx34 h=>oB h fun x38 hx38 h=>oB h fun x41 hx41 h=>qm rfl ?_
 refine A1 (J3 rfl rfl) rfl<|qm rfl<|gp 3 83 (.b ((x3.2.2 == 0) && (x4.2 == 0))) 80 rfl rfl (fun hg12=>?_) (fun hg12=>?_) ?_
 ·exact gT rfl hg12<|qm rfl<|gT rfl hg12<|A1 (J3 rfl rfl) rfl<|A1 (D8 rfl hg12 rfl) rfl<|ge 3 (by rw [hg12]; rfl) rfl rfl
 ·exact nT rfl hg12 rfl<|nT rfl hg12 rfl<|A1 (D7 rfl hg12 rfl) rfl<|ge 3 (by rw [hg12]; rfl) rfl rfl
 refine qm rfl<|gp 3 87 (.b (((x3.2.2 == 0) && (x4.2 == 0)) && (x5.2 == 0))) 84 rfl rfl (fun hg13=>?_) (fun hg13=>?_) ?_
 ·exact gT rfl hg13<|qm rfl<|gT rfl hg13<|A1 (J3 rfl rfl) rfl<|A1 (D8 rfl hg13 rfl) rfl<|ge 3 (by rw [hg13]; rfl) rfl rfl
 ·exact nT rfl hg13 rfl<|nT rfl hg13 rfl<|A1 (D7 rfl hg13 rfl) rfl<|ge 3 (by rw [hg13]; rfl) rfl rfl
 refine qm rfl<|gp 3 91 (.b ((((x3.2.2 == 0) && (x4.2 == 0)) && (x5.2 == 0)) && (x6.2.2 == 0))) 88 rfl rfl (fun hg14=>?_) (fun hg14=>?_) ?_
 ·exact gT rfl hg14<|qm rfl<|gT rfl hg14<|A1 (J3 rfl rfl) rfl<|A1 (D8 rfl hg14 rfl) rfl<|ge 3 (by rw [hg14]; rfl) rfl rfl
 ·exact nT rfl hg14 rfl<|nT rfl hg14 rfl<|A1 (D7 rfl hg14 rfl) rfl<|ge 3 (by rw [hg14]; rfl) rfl rfl
 refine qm rfl<|gp 3 95 (.b (((((x3.2.2 == 0) && (x4.2 == 0)) && (x5.2 == 0)) && (x6.2.2 == 0)) && (x7.2.2 == 9))) 92 rfl rfl (fun hg15=>?_) (fun hg15=>?_) ?_
 ·exact gT rfl hg15<|qm rfl<|gT rfl hg15<|A1 (J3 rfl rfl) rfl<|A1 (D8 rfl hg15 rfl) rfl<|ge 3 (by rw [hg15]; rfl) rfl rfl
 ·exact nT rfl hg15 rfl<|nT rfl hg15 rfl<|A1 (D7 rfl hg15 rfl) rfl<|ge 3 (by rw [hg15]; rfl) rfl rfl
 refine qm rfl<|gp 3 99 (.b ((((((x3.2.2 == 0) && (x4.2 == 0)) && (x5.2 == 0)) && (x6.2.2 == 0)) && (x7.2.2 == 9)) && (x8.2 == 0))) 96 rfl rfl (fun hg16=>?_) (fun hg16=>?_) ?_
 ·exact gT rfl hg16<|qm rfl<|gT rfl hg16<|A1 (J3 rfl rfl) rfl<|A1 (D8 rfl hg16 rfl) rfl<|ge 3 (by rw [hg16]; rfl) rfl rfl
 ·exact nT rfl hg16 rfl<|nT rfl hg16 rfl<|A1 (D7 rfl hg16 rfl) rfl<|ge 3 (by rw [hg16]; rfl) rfl rfl
 refine qm rfl<|gp 3 103 (.b (((((((x3.2.2 == 0) && (x4.2 == 0)) && (x5.2 == 0)) && (x6.2.2 == 0)) && (x7.2.2 == 9)) && (x8.2 == 0)) && (x9.2 == 0))) 100 rfl rfl (fun hg17=>?_) (fun hg17=>?_) ?_
 ·exact gT rfl hg17<|qm rfl<|gT rfl hg17<|A1 (J3 rfl rfl) rfl<|A1 (D8 rfl hg17 rfl) rfl<|ge 3 (by rw [hg17]; rfl) rfl rfl
 ·exact nT rfl hg17 rfl<|nT rfl hg17 rfl<|A1 (D7 rfl hg17 rfl) rfl<|ge 3 (by rw [hg17]; rfl) rfl rfl
 refine qm rfl<|gp 3 107 (.b ((((((((x3.2.2 == 0) && (x4.2 == 0)) && (x5.2 == 0)) && (x6.2.2 == 0)) && (x7.2.2 == 9)) && (x8.2 == 0)) && (x9.2 == 0)) && (x10.2 == 0))) 104 rfl rfl (fun hg18=>?_) (fun hg18=>?_) ?_
 ·exact gT rfl hg18<|qm rfl<|gT rfl hg18<|A1 (J3 rfl rfl) rfl<|A1 (D8 rfl hg18 rfl) rfl<|ge 3 (by rw [hg18]; rfl) rfl rfl
 ·exact nT rfl hg18 rfl<|nT rfl hg18 rfl<|A1 (D7 rfl hg18 rfl) rfl<|ge 3 (by rw [hg18]; rfl) rfl rfl
 refine qm rfl<|gp 3 111 (.b (((((((((x3.2.2 == 0) && (x4.2 == 0)) && (x5.2 == 0)) && (x6.2.2 == 0)) && (x7.2.2 == 9)) && (x8.2 == 0)) && (x9.2 == 0)) && (x10.2 == 0)) && (x11.2.2 == 0))) 108 rfl rfl (fun hg19=>?_) (fun hg19=>?_) ?_
 ·exact gT rfl hg19<|qm rfl<|gT rfl hg19<|A1 (J3 rfl rfl) rfl<|A1 (D8 rfl hg19 rfl) rfl<|ge 3 (by rw [hg19]; rfl) rfl rfl
 ·exact nT rfl hg19 rfl<|nT rfl hg19 rfl<|A1 (D7 rfl hg19 rfl) rfl<|ge 3 (by rw [hg19]; rfl) rfl rfl
 refine qm rfl<|gp 3 115 (.b ((((((((((x3.2.2 == 0) && (x4.2 == 0)) && (x5.2 == 0)) && (x6.2.2 == 0)) && (x7.2.2 == 9)) && (x8.2 == 0)) && (x9.2 == 0)) && (x10.2 == 0)) && (x11.2.2 == 0)) && (x3.1 == 14))) 112 rfl rfl (fun hg20=>?_) (fun hg20=>?_) ?_
 ·exact gT rfl hg20<|qm rfl<|gT rfl hg20<|A1 (J3 rfl rfl) rfl<|A1 (D8 rfl hg20 rfl) rfl<|ge 3 (by rw [hg20]; rfl) rfl rfl
 ·exact nT rfl hg20 rfl<|nT rfl hg20 rfl<|A1 (D7 rfl hg20 rfl) rfl<|ge 3 (by rw [hg20]; rfl) rfl rfl
 refine qm rfl<|gp 4 120 (.b x23) 116 rfl rfl (fun hg21=>?_) (fun hg21=>?_) ?_
 ·refine oB (bt hx23 hg21) fun x22 hx22 hx23=>?_
  obtain rfl:=os hx23
  exact gT rfl hg21<|qm rfl<|gT rfl hg21<|A1 (I2 (rows:=List.map cI [0,2]) rfl rfl (E0 (fun _=>rfl) _)) rfl<|gT rfl hg21<|C2 (rs:=[.b x22]) rfl rfl (A4 rfl (A4 rfl B8)) ((M7 hx22).frz)<|A1 (D8 rfl hg21 rfl) rfl<|ge 4 rfl rfl rfl
 ·obtain rfl:=os (bf hx23 hg21)
  exact nT rfl hg21 rfl<|nT rfl hg21 rfl<|S8 (K8 rfl (by rw [hg21]; rfl)) rfl<|A1 (D7 rfl hg21 rfl) rfl<|ge 4 rfl rfl rfl
 refine qm rfl<|gp 4 125 (.b x26) 121 rfl rfl (fun hg24=>?_) (fun hg24=>?_) ?_
 ·refine oB (bt hx26 hg24) fun x25 hx25 hx26=>?_
  obtain rfl:=os hx26
  exact gT rfl hg24<|qm rfl<|gT rfl hg24<|A1 (I2 (rows:=List.map cI [4,(-1)]) rfl rfl (E0 (fun _=>rfl) _)) rfl<|gT rfl hg24<|C2 (rs:=[.b x25]) rfl rfl (A4 rfl (A4 rfl B8)) ((M7 hx25).frz)<|A1 (D8 rfl hg24 rfl) rfl<|ge 4 rfl rfl rfl
 ·obtain rfl:=os (bf hx26 hg24)
  exact nT rfl hg24 rfl<|nT rfl hg24 rfl<|S8 (K8 rfl (by rw [hg24]; rfl)) rfl<|A1 (D7 rfl hg24 rfl) rfl<|ge 4 rfl rfl rfl
 refine qm rfl<|gp 3 129 (.b (x26 && (x5.1 == 14))) 126 rfl rfl (fun hg27=>?_) (fun hg27=>?_) ?_
 ·exact gT rfl hg27<|qm rfl<|gT rfl hg27<|A1 (J3 rfl rfl) rfl<|A1 (D8 rfl hg27 rfl) rfl<|ge 3 (by rw [hg27]; rfl) rfl rfl
 ·exact nT rfl hg27 rfl<|nT rfl hg27 rfl<|A1 (D7 rfl hg27 rfl) rfl<|ge 3 (by rw [hg27]; rfl) rfl rfl
 refine qm rfl<|gp 4 134 (.b x30) 130 rfl rfl (fun hg28=>?_) (fun hg28=>?_) ?_
 ·refine oB (bt hx30 hg28) fun x29 hx29 hx30=>?_
  obtain rfl:=os hx30
  exact gT rfl hg28<|qm rfl<|gT rfl hg28<|A1 (I2 (rows:=List.map cI [1,0,2]) rfl rfl (E0 (fun _=>rfl) _)) rfl<|gT rfl hg28<|C2 (rs:=[.b x29]) rfl rfl (A4 rfl (A4 rfl B8)) ((M7 hx29).frz)<|A1 (D8 rfl hg28 rfl) rfl<|ge 4 rfl rfl rfl
 ·obtain rfl:=os (bf hx30 hg28)
  exact nT rfl hg28 rfl<|nT rfl hg28 rfl<|S8 (K8 rfl (by rw [hg28]; rfl)) rfl<|A1 (D7 rfl hg28 rfl) rfl<|ge 4 rfl rfl rfl
 refine qm rfl<|gp 3 138 (.b (x30 && (x6.2.1 == 14))) 135 rfl rfl (fun hg31=>?_) (fun hg31=>?_) ?_
 ·exact gT rfl hg31<|qm rfl<|gT rfl hg31<|A1 (J3 rfl rfl) rfl<|A1 (D8 rfl hg31 rfl) rfl<|ge 3 (by rw [hg31]; rfl) rfl rfl
 ·exact nT rfl hg31 rfl<|nT rfl hg31 rfl<|A1 (D7 rfl hg31 rfl) rfl<|ge 3 (by rw [hg31]; rfl) rfl rfl
 refine qm rfl<|gp 4 143 (.b x34) 139 rfl rfl (fun hg32=>?_) (fun hg32=>?_) ?_
 ·refine oB (bt hx34 hg32) fun x33 hx33 hx34=>?_
  obtain rfl:=os hx34
  exact gT rfl hg32<|qm rfl<|gT rfl hg32<|A1 (I2 (rows:=List.map cI [2]) rfl rfl (E0 (fun _=>rfl) _)) rfl<|gT rfl hg32<|C2 (rs:=[.b x33]) rfl rfl (A4 rfl (A4 rfl B8)) ((M7 hx33).frz)<|A1 (D8 rfl hg32 rfl) rfl<|ge 4 rfl rfl rfl
 ·obtain rfl:=os (bf hx34 hg32)
  exact nT rfl hg32 rfl<|nT rfl hg32 rfl<|S8 (K8 rfl (by rw [hg32]; rfl)) rfl<|A1 (D7 rfl hg32 rfl) rfl<|ge 4 rfl rfl rfl
 refine qm rfl<|gp 3 147 (.b (x34 && (x9.1 == 10))) 144 rfl rfl (fun hg35=>?_) (fun hg35=>?_) ?_
 ·exact gT rfl hg35<|qm rfl<|gT rfl hg35<|A1 (J3 rfl rfl) rfl<|A1 (D8 rfl hg35 rfl) rfl<|ge 3 (by rw [hg35]; rfl) rfl rfl
 ·exact nT rfl hg35 rfl<|nT rfl hg35 rfl<|A1 (D7 rfl hg35 rfl) rfl<|ge 3 (by rw [hg35]; rfl) rfl rfl
 refine qm rfl<|gp 4 152 (.b x38) 148 rfl rfl (fun hg36=>?_) (fun hg36=>?_) ?_
 ·refine oB (bt hx38 hg36) fun x37 hx37 hx38=>?_
  obtain rfl:=os hx38
  exact gT rfl hg36<|qm rfl<|gT rfl hg36<|A1 (I2 (rows:=List.map cI [0]) rfl rfl (E0 (fun _=>rfl) _)) rfl<|gT rfl hg36<|C2 (rs:=[.b x37]) rfl rfl (A4 rfl (A4 rfl B8)) ((M7 hx37).frz)<|A1 (D8 rfl hg36 rfl) rfl<|ge 4 rfl rfl rfl
 ·obtain rfl:=os (bf hx38 hg36)
  exact nT rfl hg36 rfl<|nT rfl hg36 rfl<|S8 (K8 rfl (by rw [hg36]; rfl)) rfl<|A1 (D7 rfl hg36 rfl) rfl<|ge 4 rfl rfl rfl
 refine qm rfl<|gp 4 157 (.b x41) 153 rfl rfl (fun hg39=>?_) (fun hg39=>?_) ?_
 ·refine oB (bt hx41 hg39) fun x40 hx40 hx41=>?_
  obtain rfl:=os hx41
  exact gT rfl hg39<|qm rfl<|gT rfl hg39<|A1 (I2 (rows:=List.map cI [0,1]) rfl rfl (E0 (fun _=>rfl) _)) rfl<|gT rfl hg39<|C2 (rs:=[.b x40]) rfl rfl (A4 rfl (A4 rfl B8)) ((M7 hx40).frz)<|A1 (D8 rfl hg39 rfl) rfl<|ge 4 rfl rfl rfl
 ·obtain rfl:=os (bf hx41 hg39)
  exact nT rfl hg39 rfl<|nT rfl hg39 rfl<|S8 (K8 rfl (by rw [hg39]; rfl)) rfl<|A1 (D7 rfl hg39 rfl) rfl<|ge 4 rfl rfl rfl
 refine qm rfl<|gp 3 161 (.b (x41 && (x11.2.1 == 14))) 158 rfl rfl (fun hg42=>?_) (fun hg42=>?_) ?_
 ·exact gT rfl hg42<|qm rfl<|gT rfl hg42<|A1 (J3 rfl rfl) rfl<|A1 (D8 rfl hg42 rfl) rfl<|ge 3 (by rw [hg42]; rfl) rfl rfl
 ·exact nT rfl hg42 rfl<|nT rfl hg42 rfl<|A1 (D7 rfl hg42 rfl) rfl<|ge 3 (by rw [hg42]; rfl) rfl rfl
 refine qm rfl<|es (ra1 rfl)<|D0 ?_
 obtain rfl:=os h
 exact retq trivial (B3 rfl B6) (A8 rfl B9) (A5 A9 B4)
def A0e :Option Bool :=
 (A1k 2).bind fun x1 =>
 (A1f x1 1 0).bind fun x2 =>
 (A1f x1 2 1).bind fun x3 =>
 (A27 x1 [1,0,2]).bind fun x4 =>
 (A28 x1 [2,0,1]).bind fun x5 =>
 (A0n x1 0).bind fun x6 =>
 (A0n x1 2).bind fun x7 =>
 (A4t x1).bind fun x8 =>
 (A4s x1).bind fun x9 =>
 (if (((((((((((x2.2.2 == 0) && (x3.2.2 == 0)) && (x4.2 == 0)) && (x5.2 == 9)) && (x6.2 == 0)) && (x7.2 == 0)) && (x8.2 == 0)) && (x9.2.2 == 0)) && (x2.1 == 0)) && ((List.length x2.2.1:Int) == 0)) && (x3.1 == 16)) = true then
  (P0 x3.2.1 [1,2]).bind fun x21 =>
  some x21
 else
  some false).bind fun x22 =>
 (if x22 = true then
  (P0 x4.1 [4,0]).bind fun x24 =>
  some x24
 else
  some false).bind fun x25 =>
 (if (((x25 && (x6.1 == 0)) && (x7.1 == 4)) && ((List.length x8.1:Int) == 0)) = true then
  (P0 x9.1 [0,0]).bind fun x30 =>
  some x30
 else
  some false).bind fun x31 =>
 (if (x31 && (x9.2.1 == 14)) = true then
  (A1z).bind fun x34 =>
  some x34
 else
  some false).bind fun x35 =>
 some x35
theorem A45 {c:Sc} {H:A0} (hscv:O5 c H = true)  {r:Bool} (h:A0e  = some r) :
  F2 tab c H (.fn (.func 7) [] []) [] [.b r]:= by
 unfold A0e at h
 refine cE rfl rfl<|s0<|qm rfl<|es .n<|sg 0 rfl<|oB h fun x1 hx1 h=>C2 (rs:=[(.agg (A7 x1))]) rfl rfl (A4 rfl B8) ((A2f hx1).frz)<|A1 D9 rfl<|F8 (C4 (ds:=(A7 x1)) rfl rfl rfl rfl (C0 rfl) rfl) rfl<|es (ra1 rfl)<|s0<|oB h fun x2 hx2 h=>A1 (C5 rfl rfl rfl) rfl<|C2 (rs:=[.i x2.1,(.seq 1 (List.map cI x2.2.1)),.i x2.2.2]) rfl rfl (A4 (E4 rfl) (A4 rfl (A4 rfl B8))) ((A2e hx2).frz)<|qm rfl<|A1 (A6 rfl rfl) rfl<|A1 (A6 rfl rfl) rfl<|A1 (A6 rfl rfl) rfl<|qm rfl<|qm rfl<|qm rfl<|es (ra4 rfl rfl rfl rfl)<|s0<|oB h fun x3 hx3 h=>A1 (C5 rfl rfl rfl) rfl<|C2 (rs:=[.i x3.1,(.seq 1 (List.map cI x3.2.1)),.i x3.2.2]) rfl rfl (A4 (E4 rfl) (A4 rfl (A4 rfl B8))) ((A2e hx3).frz)<|qm rfl<|A1 (A6 rfl rfl) rfl<|A1 (A6 rfl rfl) rfl<|A1 (A6 rfl rfl) rfl<|qm rfl<|qm rfl<|qm rfl<|es (ra7 rfl rfl rfl rfl rfl rfl rfl)<|s0<|oB h fun x4 hx4 h=>A1 (C5 rfl rfl rfl) rfl<|A1 (I2 (rows:=List.map cI [1,0,2]) rfl rfl (E0 (fun _=>rfl) _)) rfl<|C2 (rs:=[(.seq 1 (List.map cI x4.1)),.i x4.2]) rfl rfl (A4 (E4 rfl) (A4 rfl B8)) ((A5e hx4).frz)<|qm rfl<|A1 (A6 rfl rfl) rfl<|A1 (A6 rfl rfl) rfl<|qm rfl<|qm rfl<|es (ra9 rfl rfl rfl rfl rfl rfl rfl rfl rfl)<|s0<|oB h fun x5 hx5 h=>A1 (C5 rfl rfl rfl) rfl<|A1 (I2 (rows:=List.map cI [2,0,1]) rfl rfl (E0 (fun _=>rfl) _)) rfl<|C2 (rs:=[.i x5.1,.i x5.2]) rfl rfl (A4 (E4 rfl) (A4 rfl B8)) ((A5f hx5).frz)<|qm rfl<|A1 (A6 rfl rfl) rfl<|A1 (A6 rfl rfl) rfl<|qm rfl<|qm rfl<|es (ra10 rfl rfl rfl rfl rfl rfl rfl rfl rfl rfl)<|s0<|oB h fun x6 hx6 h=>A1 (C5 rfl rfl rfl) rfl<|C2 (rs:=[.i x6.1,.i x6.2]) rfl rfl (A4 (E4 rfl) (A4 rfl B8)) ((A1m (A2h hscv) hx6).frz)<|qm rfl ?_
 refine A1 (A6 rfl rfl) rfl<|A1 (A6 rfl rfl) rfl<|qm rfl<|qm rfl<|es (ra12 rfl rfl rfl rfl rfl rfl rfl rfl rfl rfl rfl rfl)<|s0<|oB h fun x7 hx7 h=>A1 (C5 rfl rfl rfl) rfl<|C2 (rs:=[.i x7.1,.i x7.2]) rfl rfl (A4 (E4 rfl) (A4 rfl B8)) ((A1m (A2h hscv) hx7).frz)<|qm rfl<|A1 (A6 rfl rfl) rfl<|A1 (A6 rfl rfl) rfl<|qm rfl<|qm rfl<|es (ra14 rfl rfl rfl rfl rfl rfl rfl rfl rfl rfl rfl rfl rfl rfl)<|s0<|oB h fun x8 hx8 h=>A1 (C5 rfl rfl rfl) rfl<|C2 (rs:=[(.seq 1 (List.map cI x8.1)),.i x8.2]) rfl rfl (A4 (E4 rfl) B8) ((A68 (A2h hscv) hx8).frz)<|qm rfl<|A1 (A6 rfl rfl) rfl<|A1 (A6 rfl rfl) rfl<|qm rfl<|qm rfl<|es (.k rfl (.k rfl (.k rfl (.k rfl (.k rfl (.k rfl (.k rfl (.k rfl (.k rfl (.k rfl (.k rfl (.k rfl (.k rfl (.k rfl (.k rfl (.k rfl .n))))))))))))))))<|s0<|oB h fun x9 hx9 h=>A1 (C5 rfl rfl rfl) rfl<|C2 (rs:=[(.seq 1 (List.map cI x9.1)),.i x9.2.1,.i x9.2.2]) rfl rfl (A4 (E4 rfl) B8) ((A67 (A2h hscv) hx9).frz)<|qm rfl<|A1 (A6 rfl rfl) rfl<|A1 (A6 rfl rfl) rfl<|A1 (A6 rfl rfl) rfl<|qm rfl<|qm rfl<|qm rfl<|es (.k rfl (.k rfl (.k rfl (.k rfl (.k rfl (.k rfl (.k rfl (.k rfl (.k rfl (.k rfl (.k rfl (.k rfl (.k rfl (.k rfl (.k rfl (.k rfl (.k rfl (.k rfl .n))))))))))))))))))<|s0<|oB h fun x22 hx22 h=>oB h fun x25 hx25 h=>oB h fun x31 hx31 h=>oB h fun x35 hx35 h=>qm rfl<|A1 (J3 rfl rfl) rfl<|qm rfl<|gp 3 72 (.b ((x2.2.2 == 0) && (x3.2.2 == 0))) 69 rfl rfl (fun hg10=>?_) (fun hg10=>?_) ?_
 ·exact gT rfl hg10<|qm rfl<|gT rfl hg10<|A1 (J3 rfl rfl) rfl<|A1 (D8 rfl hg10 rfl) rfl<|ge 3 (by rw [hg10]; rfl) rfl rfl
 ·exact nT rfl hg10 rfl<|nT rfl hg10 rfl<|A1 (D7 rfl hg10 rfl) rfl<|ge 3 (by rw [hg10]; rfl) rfl rfl
 refine qm rfl<|gp 3 76 (.b (((x2.2.2 == 0) && (x3.2.2 == 0)) && (x4.2 == 0))) 73 rfl rfl (fun hg11=>?_) (fun hg11=>?_) ?_
 ·exact gT rfl hg11<|qm rfl<|gT rfl hg11<|A1 (J3 rfl rfl) rfl<|A1 (D8 rfl hg11 rfl) rfl<|ge 3 (by rw [hg11]; rfl) rfl rfl
 ·exact nT rfl hg11 rfl<|nT rfl hg11 rfl<|A1 (D7 rfl hg11 rfl) rfl<|ge 3 (by rw [hg11]; rfl) rfl rfl
 refine qm rfl<|gp 3 80 (.b ((((x2.2.2 == 0) && (x3.2.2 == 0)) && (x4.2 == 0)) && (x5.2 == 9))) 77 rfl rfl (fun hg12=>?_) (fun hg12=>?_) ?_
 ·exact gT rfl hg12<|qm rfl<|gT rfl hg12<|A1 (J3 rfl rfl) rfl<|A1 (D8 rfl hg12 rfl) rfl<|ge 3 (by rw [hg12]; rfl) rfl rfl
 ·exact nT rfl hg12 rfl<|nT rfl hg12 rfl<|A1 (D7 rfl hg12 rfl) rfl<|ge 3 (by rw [hg12]; rfl) rfl rfl
 refine qm rfl<|gp 3 84 (.b (((((x2.2.2 == 0) && (x3.2.2 == 0)) && (x4.2 == 0)) && (x5.2 == 9)) && (x6.2 == 0))) 81 rfl rfl (fun hg13=>?_) (fun hg13=>?_) ?_
 ·exact gT rfl hg13<|qm rfl<|gT rfl hg13<|A1 (J3 rfl rfl) rfl<|A1 (D8 rfl hg13 rfl) rfl<|ge 3 (by rw [hg13]; rfl) rfl rfl
 ·exact nT rfl hg13 rfl<|nT rfl hg13 rfl<|A1 (D7 rfl hg13 rfl) rfl<|ge 3 (by rw [hg13]; rfl) rfl rfl
 refine qm rfl<|gp 3 88 (.b ((((((x2.2.2 == 0) && (x3.2.2 == 0)) && (x4.2 == 0)) && (x5.2 == 9)) && (x6.2 == 0)) && (x7.2 == 0))) 85 rfl rfl (fun hg14=>?_) (fun hg14=>?_) ?_
 ·exact gT rfl hg14<|qm rfl<|gT rfl hg14<|A1 (J3 rfl rfl) rfl<|A1 (D8 rfl hg14 rfl) rfl<|ge 3 (by rw [hg14]; rfl) rfl rfl
 ·exact nT rfl hg14 rfl<|nT rfl hg14 rfl<|A1 (D7 rfl hg14 rfl) rfl<|ge 3 (by rw [hg14]; rfl) rfl rfl
 refine qm rfl<|gp 3 92 (.b (((((((x2.2.2 == 0) && (x3.2.2 == 0)) && (x4.2 == 0)) && (x5.2 == 9)) && (x6.2 == 0)) && (x7.2 == 0)) && (x8.2 == 0))) 89 rfl rfl (fun hg15=>?_) (fun hg15=>?_) ?_
 ·exact gT rfl hg15<|qm rfl<|gT rfl hg15<|A1 (J3 rfl rfl) rfl<|A1 (D8 rfl hg15 rfl) rfl<|ge 3 (by rw [hg15]; rfl) rfl rfl
 ·exact nT rfl hg15 rfl<|nT rfl hg15 rfl<|A1 (D7 rfl hg15 rfl) rfl<|ge 3 (by rw [hg15]; rfl) rfl rfl
 refine qm rfl<|gp 3 96 (.b ((((((((x2.2.2 == 0) && (x3.2.2 == 0)) && (x4.2 == 0)) && (x5.2 == 9)) && (x6.2 == 0)) && (x7.2 == 0)) && (x8.2 == 0)) && (x9.2.2 == 0))) 93 rfl rfl (fun hg16=>?_) (fun hg16=>?_) ?_
 ·exact gT rfl hg16<|qm rfl<|gT rfl hg16<|A1 (J3 rfl rfl) rfl<|A1 (D8 rfl hg16 rfl) rfl<|ge 3 (by rw [hg16]; rfl) rfl rfl
 ·exact nT rfl hg16 rfl<|nT rfl hg16 rfl<|A1 (D7 rfl hg16 rfl) rfl<|ge 3 (by rw [hg16]; rfl) rfl rfl
 refine qm rfl<|gp 3 100 (.b (((((((((x2.2.2 == 0) && (x3.2.2 == 0)) && (x4.2 == 0)) && (x5.2 == 9)) && (x6.2 == 0)) && (x7.2 == 0)) && (x8.2 == 0)) && (x9.2.2 == 0)) && (x2.1 == 0))) 97 rfl rfl (fun hg17=>?_) (fun hg17=>?_) ?_
 ·exact gT rfl hg17<|qm rfl<|gT rfl hg17<|A1 (J3 rfl rfl) rfl<|A1 (D8 rfl hg17 rfl) rfl<|ge 3 (by rw [hg17]; rfl) rfl rfl
 ·exact nT rfl hg17 rfl<|nT rfl hg17 rfl<|A1 (D7 rfl hg17 rfl) rfl<|ge 3 (by rw [hg17]; rfl) rfl rfl
 refine qm rfl<|gp 4 105 (.b ((((((((((x2.2.2 == 0) && (x3.2.2 == 0)) && (x4.2 == 0)) && (x5.2 == 9)) && (x6.2 == 0)) && (x7.2 == 0)) && (x8.2 == 0)) && (x9.2.2 == 0)) && (x2.1 == 0)) && ((List.length x2.2.1:Int) == 0))) 101 rfl rfl (fun hg18=>?_) (fun hg18=>?_) ?_
 ·exact gT rfl hg18<|qm rfl<|gT rfl hg18<|A1 (E6 (f:=cI) rfl) rfl<|gT rfl hg18<|A1 (J3 rfl rfl) rfl<|A1 (D8 rfl hg18 rfl) rfl<|ge 4 (by rw [hg18]; rfl) rfl rfl
 ·exact nT rfl hg18 rfl<|nT rfl hg18 rfl<|nT rfl hg18 rfl<|A1 (D7 rfl hg18 rfl) rfl<|ge 4 (by rw [hg18]; rfl) rfl rfl
 refine qm rfl<|gp 3 109 (.b (((((((((((x2.2.2 == 0) && (x3.2.2 == 0)) && (x4.2 == 0)) && (x5.2 == 9)) && (x6.2 == 0)) && (x7.2 == 0)) && (x8.2 == 0)) && (x9.2.2 == 0)) && (x2.1 == 0)) && ((List.length x2.2.1:Int) == 0)) && (x3.1 == 16))) 106 rfl rfl (fun hg19=>?_) (fun hg19=>?_) ?_
 ·exact gT rfl hg19<|qm rfl<|gT rfl hg19<|A1 (J3 rfl rfl) rfl<|A1 (D8 rfl hg19 rfl) rfl<|ge 3 (by rw [hg19]; rfl) rfl rfl
 ·exact nT rfl hg19 rfl<|nT rfl hg19 rfl<|A1 (D7 rfl hg19 rfl) rfl<|ge 3 (by rw [hg19]; rfl) rfl rfl
 refine qm rfl<|gp 4 114 (.b x22) 110 rfl rfl (fun hg20=>?_) (fun hg20=>?_) ?_
 ·refine oB (bt hx22 hg20) fun x21 hx21 hx22=>?_
  obtain rfl:=os hx22
  exact gT rfl hg20<|qm rfl<|gT rfl hg20<|A1 (I2 (rows:=List.map cI [1,2]) rfl rfl (E0 (fun _=>rfl) _)) rfl<|gT rfl hg20<|C2 (rs:=[.b x21]) rfl rfl (A4 rfl (A4 rfl B8)) ((M7 hx21).frz)<|A1 (D8 rfl hg20 rfl) rfl<|ge 4 rfl rfl rfl
 ·obtain rfl:=os (bf hx22 hg20)
  exact nT rfl hg20 rfl<|nT rfl hg20 rfl<|S8 (K8 rfl (by rw [hg20]; rfl)) rfl<|A1 (D7 rfl hg20 rfl) rfl<|ge 4 rfl rfl rfl
 refine qm rfl<|gp 4 119 (.b x25) 115 rfl rfl (fun hg23=>?_) (fun hg23=>?_) ?_
 ·refine oB (bt hx25 hg23) fun x24 hx24 hx25=>?_
  obtain rfl:=os hx25
  exact gT rfl hg23<|qm rfl<|gT rfl hg23<|A1 (I2 (rows:=List.map cI [4,0]) rfl rfl (E0 (fun _=>rfl) _)) rfl<|gT rfl hg23<|C2 (rs:=[.b x24]) rfl rfl (A4 rfl (A4 rfl B8)) ((M7 hx24).frz)<|A1 (D8 rfl hg23 rfl) rfl<|ge 4 rfl rfl rfl
 ·obtain rfl:=os (bf hx25 hg23)
  exact nT rfl hg23 rfl<|nT rfl hg23 rfl<|S8 (K8 rfl (by rw [hg23]; rfl)) rfl<|A1 (D7 rfl hg23 rfl) rfl<|ge 4 rfl rfl rfl
 refine qm rfl<|gp 3 123 (.b (x25 && (x6.1 == 0))) 120 rfl rfl (fun hg26=>?_) (fun hg26=>?_) ?_
 ·exact gT rfl hg26<|qm rfl<|gT rfl hg26<|A1 (J3 rfl rfl) rfl<|A1 (D8 rfl hg26 rfl) rfl<|ge 3 (by rw [hg26]; rfl) rfl rfl
 ·exact nT rfl hg26 rfl<|nT rfl hg26 rfl<|A1 (D7 rfl hg26 rfl) rfl<|ge 3 (by rw [hg26]; rfl) rfl rfl
 refine qm rfl<|gp 3 127 (.b ((x25 && (x6.1 == 0)) && (x7.1 == 4))) 124 rfl rfl (fun hg27=>?_) (fun hg27=>?_) ?_
 ·exact gT rfl hg27<|qm rfl<|gT rfl hg27<|A1 (J3 rfl rfl) rfl<|A1 (D8 rfl hg27 rfl) rfl<|ge 3 (by rw [hg27]; rfl) rfl rfl
 ·exact nT rfl hg27 rfl<|nT rfl hg27 rfl<|A1 (D7 rfl hg27 rfl) rfl<|ge 3 (by rw [hg27]; rfl) rfl rfl
 refine qm rfl<|gp 4 132 (.b (((x25 && (x6.1 == 0)) && (x7.1 == 4)) && ((List.length x8.1:Int) == 0))) 128 rfl rfl (fun hg28=>?_) (fun hg28=>?_) ?_
 ·exact gT rfl hg28<|qm rfl<|gT rfl hg28<|A1 (E6 (f:=cI) rfl) rfl<|gT rfl hg28<|A1 (J3 rfl rfl) rfl<|A1 (D8 rfl hg28 rfl) rfl<|ge 4 (by rw [hg28]; rfl) rfl rfl
 ·exact nT rfl hg28 rfl<|nT rfl hg28 rfl<|nT rfl hg28 rfl<|A1 (D7 rfl hg28 rfl) rfl<|ge 4 (by rw [hg28]; rfl) rfl rfl
 refine qm rfl<|gp 4 137 (.b x31) 133 rfl rfl (fun hg29=>?_) (fun hg29=>?_) ?_
 ·refine oB (bt hx31 hg29) fun x30 hx30 hx31=>?_
  obtain rfl:=os hx31
  exact gT rfl hg29<|qm rfl<|gT rfl hg29<|A1 (I2 (rows:=List.map cI [0,0]) rfl rfl (E0 (fun _=>rfl) _)) rfl<|gT rfl hg29<|C2 (rs:=[.b x30]) rfl rfl (A4 rfl (A4 rfl B8)) ((M7 hx30).frz)<|A1 (D8 rfl hg29 rfl) rfl<|ge 4 rfl rfl rfl
 ·obtain rfl:=os (bf hx31 hg29)
  exact nT rfl hg29 rfl<|nT rfl hg29 rfl<|S8 (K8 rfl (by rw [hg29]; rfl)) rfl<|A1 (D7 rfl hg29 rfl) rfl<|ge 4 rfl rfl rfl
 refine qm rfl<|gp 3 141 (.b (x31 && (x9.2.1 == 14))) 138 rfl rfl (fun hg32=>?_) (fun hg32=>?_) ?_
 ·exact gT rfl hg32<|qm rfl<|gT rfl hg32<|A1 (J3 rfl rfl) rfl<|A1 (D8 rfl hg32 rfl) rfl<|ge 3 (by rw [hg32]; rfl) rfl rfl
 ·exact nT rfl hg32 rfl<|nT rfl hg32 rfl<|A1 (D7 rfl hg32 rfl) rfl<|ge 3 (by rw [hg32]; rfl) rfl rfl
 refine qm rfl<|gp 2 144 (.b x35) 142 rfl rfl (fun hg33=>?_) (fun hg33=>?_) ?_
 ·refine oB (bt hx35 hg33) fun x34 hx34 hx35=>?_
  obtain rfl:=os hx35
  exact gT rfl hg33<|C2 (rs:=[.b x34]) rfl rfl B8 ((B1h (A2h hscv) hx34).frz)<|A1 (D8 rfl hg33 rfl) rfl<|ge 2 rfl rfl rfl
 ·obtain rfl:=os (bf hx35 hg33)
  exact S8 (K8 rfl (by rw [hg33]; rfl)) rfl<|A1 (D7 rfl hg33 rfl) rfl<|ge 2 rfl rfl rfl
 refine qm rfl<|es (ra1 rfl)<|D0 ?_
 obtain rfl:=os h
 exact retq trivial (B3 rfl B6) (A8 rfl B9) (A5 A9 B4)
end Ds
end
section
set_option maxRecDepth 100000
namespace Ds
theorem A9m:A0e = some true:= by decide +kernel
end Ds
end
