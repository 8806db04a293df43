/- Calls of a closed run: runs 1. -/
import Derived.Test.YtbiehdiklgdhnaaGreatDoorSrTa
import Derived.Test.YtbiehdiklgdhnaaGreatDoorXsFast
set_option linter.unusedSimpArgs false
set_option linter.unusedVariables false
namespace Go.XS.Tryz
open Go Go.TS
set_option maxRecDepth 100000
set_option linter.unusedVariables false
theorem srm1_0r : endM srm1_0 (XFS tys srf1 40 noY 7 srm1_0.ags (startM srm1_0)) = true := by kernel_rfl
theorem srm1_1r : endM srm1_1 (XFS tys srf1 40 noY 7 srm1_1.ags (startM srm1_1)) = true := by kernel_rfl
theorem srm1_2r : endM srm1_2 (XFS tys srf1 40 noY 7 srm1_2.ags (startM srm1_2)) = true := by kernel_rfl
end Go.XS.Tryz
