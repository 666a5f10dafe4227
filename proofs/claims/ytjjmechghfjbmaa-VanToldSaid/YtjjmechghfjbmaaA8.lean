/- Texts that the claim stands on, one behind another. -/
import Derived.Test.YtjjmechghfjbmaaA7
set_option linter.unusedVariables false
set_option linter.unusedSimpArgs false
set_option linter.unnecessarySimpa false
section
set_option maxRecDepth 100000
set_option maxHeartbeats 0
namespace Go.Proofs.Ytjjmechghfjbmaa.Rn
open Go Am
theorem t1044:iterB (machR Cd.tab 121) true [0,1,3,4,25,26] k199 1 s1039 = some s1043:= by kernel_rfl
theorem t864:iterB (machR Cd.tab 121) true [0,1,3,4,25,26] k199 1 s860 = some s863:= by kernel_rfl
theorem t1154:iterB (machR Cd.tab 121) true [0,1,3,4,25,26] k199 1 s1149 = some s1153:= by kernel_rfl
theorem t237:iterB (machR Cd.tab 121) true [0,1,3,4,25,26] k199 1 s233 = some s236:= by kernel_rfl
theorem t241:iterB (machR Cd.tab 121) true [0,1,3,4,25,26] k199 1 s236 = some s240:= by kernel_rfl
theorem t303:CodeR Cd.tab k198 s301 (.exit 0) s292:=.of 122 (by kernel_rfl)
theorem t1348:iterB (machR Cd.tab 120) true [0,1,3,4,25,26] k199 1 s1344 = some s1347:= by kernel_rfl
theorem t1098:iterB (machR Cd.tab 121) true [0,1,3,4,25,26] k199 1 s1093 = some s1097:= by kernel_rfl
theorem t242:CodeR Cd.tab k198 s240 (.exit 0) s232:=.of 122 (by kernel_rfl)
theorem t35:CodeR Cd.tab k32 s29 .normal s34:=.of 86 (by kernel_rfl)
theorem t30:CodeR Cd.tab k28 s25 .normal s29:=.of 86 (by kernel_rfl)
theorem t1526:CodeR Cd.tab k1525 s1256 .ret s7:=.of 87 (by kernel_rfl)
theorem t657:CodeR Cd.tab k451 s653 .normal s656:=.of 78 (by kernel_rfl)
end Go.Proofs.Ytjjmechghfjbmaa.Rn
end
