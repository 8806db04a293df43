/- Calls of a closed run: runs 0. -/
import Derived.Test.YtbiehdiklgdhnaaGreatDoorSrTa
import Derived.Test.YtbiehdiklgdhnaaGreatDoorXsFast
set_option linter.unusedSimpArgs false
set_option linter.unusedVariables false
namespace Go.XS.Tryz
open Go Go.TS
set_option maxRecDepth 100000
set_option linter.unusedVariables false
theorem srm0_0r : endM srm0_0 (XFS tys fns 40 noY 11 srm0_0.ags (startM srm0_0)) = true := by kernel_rfl
theorem srm0_1r : endM srm0_1 (XFS tys fns 40 noY 11 srm0_1.ags (startM srm0_1)) = true := by kernel_rfl
theorem srm0_2r : endM srm0_2 (XFS tys fns 40 noY 11 srm0_2.ags (startM srm0_2)) = true := by kernel_rfl
end Go.XS.Tryz
