/- Calls of a closed run: runs 2. -/
import Derived.Test.YtbiehdiklgdhnaaGreatDoorSrTa
import Derived.Test.YtbiehdiklgdhnaaGreatDoorXsFast
set_option linter.unusedSimpArgs false
set_option linter.unusedVariables false
namespace Go.XS.Tryz
open Go Go.TS
set_option maxRecDepth 100000
set_option linter.unusedVariables false
theorem srm1_3r : endM srm1_3 (XFS tys srf1 40 noY 7 srm1_3.ags (startM srm1_3)) = true := by kernel_rfl
theorem srm2_0r : endM srm2_0 (XFS tys srf2 40 noY 15 srm2_0.ags (startM srm2_0)) = true := by kernel_rfl
theorem srm2_1r : endM srm2_1 (XFS tys srf2 40 noY 15 srm2_1.ags (startM srm2_1)) = true := by kernel_rfl
theorem srm3_0r : endM srm3_0 (XFS tys srf3 40 noY 33 srm3_0.ags (startM srm3_0)) = true := by kernel_rfl
theorem srm4_0r : endM srm4_0 (XFS tys srf4 40 noY 9 srm4_0.ags (startM srm4_0)) = true := by kernel_rfl
theorem srm4_1r : endM srm4_1 (XFS tys srf4 40 noY 9 srm4_1.ags (startM srm4_1)) = true := by kernel_rfl
end Go.XS.Tryz
