/- Calls of a closed run: runs 3. -/
import Derived.Test.YtbiehdiklgdhnaaGreatDoorSrTa
import Derived.Test.YtbiehdiklgdhnaaGreatDoorXsFast
set_option linter.unusedSimpArgs false
set_option linter.unusedVariables false
namespace Go.XS.Tryz
open Go Go.TS
set_option maxRecDepth 100000
set_option linter.unusedVariables false
theorem srm4_2r : endM srm4_2 (XFS tys srf4 40 noY 9 srm4_2.ags (startM srm4_2)) = true := by kernel_rfl
theorem srm5_0r : endM srm5_0 (XFS tys srf5 40 noY 12 srm5_0.ags (startM srm5_0)) = true := by kernel_rfl
theorem srm6_0r : endM srm6_0 (XFS tys srf6 40 noY 3 srm6_0.ags (startM srm6_0)) = true := by kernel_rfl
end Go.XS.Tryz
