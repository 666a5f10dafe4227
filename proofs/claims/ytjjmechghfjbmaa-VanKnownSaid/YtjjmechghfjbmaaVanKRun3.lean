/- Pieces of the run. -/
import Derived.Test.YtjjmechghfjbmaaVanKRun0
set_option linter.unusedVariables false
set_option linter.unusedSimpArgs false
set_option linter.unnecessarySimpa false
set_option maxRecDepth 100000
set_option maxHeartbeats 0
namespace Go.Proofs.Ytjjmechghfjbmaa.Rn
open Go Am
theorem t617 : iterB (machR Cd.tab 121) true [0, 1, 3, 4, 25, 26] k232 2 s613 = some s616 := by kernel_rfl
theorem t668 : iterB (machR Cd.tab 121) true [0, 1, 3, 4, 25, 26] k232 2 s664 = some s667 := by kernel_rfl
theorem t721 : iterB (machR Cd.tab 121) true [0, 1, 3, 4, 25, 26] k232 1 s717 = some s720 := by kernel_rfl
theorem t1010 : iterB (machR Cd.tab 121) true [0, 1, 3, 4, 25, 26] k232 1 s1005 = some s1009 := by kernel_rfl
theorem t722 : CodeR Cd.tab k231 s720 (.exit 0) s713 := .of 122 (by kernel_rfl)
theorem t328 : CodeR Cd.tab k231 s326 (.exit 0) s321 := .of 122 (by kernel_rfl)
theorem t272 : CodeR Cd.tab k231 s270 (.exit 0) s265 := .of 122 (by kernel_rfl)
theorem t618 : CodeR Cd.tab k231 s616 (.exit 0) s612 := .of 122 (by kernel_rfl)
theorem t26 : CodeR Cd.tab k24 s21 .normal s25 := .of 86 (by kernel_rfl)
theorem t50 : CodeR Cd.tab k48 s45 .normal s49 := .of 86 (by kernel_rfl)
theorem t1123 : CodeR Cd.tab k1120 s1117 .normal s1122 := .of 78 (by kernel_rfl)
end Go.Proofs.Ytjjmechghfjbmaa.Rn
