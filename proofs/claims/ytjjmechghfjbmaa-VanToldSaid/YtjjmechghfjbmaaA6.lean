/- Texts that the claim stands on, one behind another. -/
import Derived.Test.YtjjmechghfjbmaaA5
set_option linter.unusedVariables false
set_option linter.unusedSimpArgs false
set_option linter.unnecessarySimpa false
section
set_option maxRecDepth 100000
set_option maxHeartbeats 0
namespace Go.Proofs.Ytjjmechghfjbmaa.Rn
open Go Am
theorem t358:iterB (machR Cd.tab 121) true [0,1,3,4,25,26] k199 1 s353 = some s357:= by kernel_rfl
theorem t1454:iterB (machR Cd.tab 120) true [0,1,3,4,25,26] k199 1 s1450 = some s1453:= by kernel_rfl
theorem t1045:CodeR Cd.tab k198 s1043 (.exit 0) s1035:=.of 122 (by kernel_rfl)
theorem t1159:CodeR Cd.tab k198 s1157 (.exit 0) s1148:=.of 122 (by kernel_rfl)
theorem t1040:iterB (machR Cd.tab 121) true [0,1,3,4,25,26] k199 1 s1036 = some s1039:= by kernel_rfl
theorem t758:iterB (machR Cd.tab 121) true [0,1,3,4,25,26] k199 1 s754 = some s757:= by kernel_rfl
theorem t1404:CodeR Cd.tab k198 s1402 (.exit 0) s1395:=.of 121 (by kernel_rfl)
theorem t302:iterB (machR Cd.tab 120) true [0,1,3,4,25,26] k199 1 s297 = some s301:= by kernel_rfl
theorem t1403:iterB (machR Cd.tab 119) true [0,1,3,4,25,26] k199 1 s1399 = some s1402:= by kernel_rfl
theorem t1349:CodeR Cd.tab k198 s1347 (.exit 0) s1340:=.of 121 (by kernel_rfl)
theorem t17:CodeR Cd.tab k15 s12 .normal s16:=.of 86 (by kernel_rfl)
theorem t1270:CodeR Cd.tab k1267 s1264 .normal s1269:=.of 78 (by kernel_rfl)
end Go.Proofs.Ytjjmechghfjbmaa.Rn
end
