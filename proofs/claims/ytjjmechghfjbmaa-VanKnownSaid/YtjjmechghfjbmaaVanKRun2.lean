/- Pieces of the run. -/
import Derived.Test.YtjjmechghfjbmaaVanKRun0
set_option linter.unusedVariables false
set_option linter.unusedSimpArgs false
set_option linter.unnecessarySimpa false
set_option maxRecDepth 100000
set_option maxHeartbeats 0
namespace Go.Proofs.Ytjjmechghfjbmaa.Rn
open Go Am
theorem t271 : iterB (machR Cd.tab 121) true [0, 1, 3, 4, 25, 26] k232 2 s266 = some s270 := by kernel_rfl
theorem t1249 : iterB (machR Cd.tab 120) true [0, 1, 3, 4, 25, 26] k232 2 s1245 = some s1248 := by kernel_rfl
theorem t1302 : iterB (machR Cd.tab 120) true [0, 1, 3, 4, 25, 26] k232 1 s1298 = some s1301 := by kernel_rfl
theorem t1299 : iterB (machR Cd.tab 120) true [0, 1, 3, 4, 25, 26] k232 1 s1295 = some s1298 := by kernel_rfl
theorem t902 : CodeR Cd.tab k231 s900 (.exit 0) s892 := .of 122 (by kernel_rfl)
theorem t1011 : CodeR Cd.tab k231 s1009 (.exit 0) s1000 := .of 122 (by kernel_rfl)
theorem t956 : CodeR Cd.tab k231 s954 (.exit 0) s949 := .of 122 (by kernel_rfl)
theorem t456 : CodeR Cd.tab k454 s72 .normal s455 := .of 83 (by kernel_rfl)
theorem t63 : CodeR Cd.tab k61 s58 .normal s62 := .of 86 (by kernel_rfl)
theorem t59 : CodeR Cd.tab k57 s54 .normal s58 := .of 86 (by kernel_rfl)
theorem t1371 : CodeR Cd.tab k1370 s1109 .ret s40 := .of 87 (by kernel_rfl)
theorem t478 : CodeR Cd.tab k475 s472 .normal s477 := .of 78 (by kernel_rfl)
end Go.Proofs.Ytjjmechghfjbmaa.Rn
