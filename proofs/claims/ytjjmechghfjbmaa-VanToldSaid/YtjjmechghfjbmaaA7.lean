/- Texts that the claim stands on, one behind another. -/
import Derived.Test.YtjjmechghfjbmaaA6
set_option linter.unusedVariables false
set_option linter.unusedSimpArgs false
set_option linter.unnecessarySimpa false
section
set_option maxRecDepth 100000
set_option maxHeartbeats 0
namespace Go.Proofs.Ytjjmechghfjbmaa.Rn
open Go Am
theorem t867:iterB (machR Cd.tab 121) true [0,1,3,4,25,26] k199 1 s863 = some s866:= by kernel_rfl
theorem t354:iterB (machR Cd.tab 121) true [0,1,3,4,25,26] k199 1 s349 = some s353:= by kernel_rfl
theorem t359:CodeR Cd.tab k198 s357 (.exit 0) s348:=.of 122 (by kernel_rfl)
theorem t1458:CodeR Cd.tab k198 s1456 (.exit 0) s1449:=.of 121 (by kernel_rfl)
theorem t1345:iterB (machR Cd.tab 120) true [0,1,3,4,25,26] k199 1 s1341 = some s1344:= by kernel_rfl
theorem t810:iterB (machR Cd.tab 121) true [0,1,3,4,25,26] k199 1 s806 = some s809:= by kernel_rfl
theorem t814:CodeR Cd.tab k198 s812 (.exit 0) s805:=.of 122 (by kernel_rfl)
theorem t1103:CodeR Cd.tab k198 s1101 (.exit 0) s1092:=.of 122 (by kernel_rfl)
theorem t759:CodeR Cd.tab k198 s757 (.exit 0) s750:=.of 122 (by kernel_rfl)
theorem t432:CodeR Cd.tab k430 s39 .normal s431:=.of 83 (by kernel_rfl)
theorem t26:CodeR Cd.tab k24 s21 .normal s25:=.of 86 (by kernel_rfl)
theorem t623:CodeR Cd.tab k470 s473 (.exit 0) s465:=.of 166 (by kernel_rfl)
theorem t454:CodeR Cd.tab k451 s448 .normal s453:=.of 77 (by kernel_rfl)
end Go.Proofs.Ytjjmechghfjbmaa.Rn
end
