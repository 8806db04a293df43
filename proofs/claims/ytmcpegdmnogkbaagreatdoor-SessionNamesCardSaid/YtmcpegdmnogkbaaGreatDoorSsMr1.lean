/- Calls of a closed run: runs 1. -/
import Derived.Test.YtmcpegdmnogkbaaGreatDoorSsTa
import Derived.Test.YtmcpegdmnogkbaaGreatDoorXsFast
set_option linter.unusedSimpArgs false
set_option linter.unusedVariables false
namespace Go.XS.Tryz
open Go Go.TS
set_option maxRecDepth 100000
set_option linter.unusedVariables false
theorem ssm2_1r : endM ssm2_1 (XFS tys ssf2 40 noY 9 ssm2_1.ags (startM ssm2_1)) = true := by kernel_rfl
theorem ssm2_2r : endM ssm2_2 (XFS tys ssf2 40 noY 9 ssm2_2.ags (startM ssm2_2)) = true := by kernel_rfl
theorem ssm2_3r : endM ssm2_3 (XFS tys ssf2 40 noY 9 ssm2_3.ags (startM ssm2_3)) = true := by kernel_rfl
theorem ssm2_4r : endM ssm2_4 (XFS tys ssf2 40 noY 9 ssm2_4.ags (startM ssm2_4)) = true := by kernel_rfl
theorem ssm2_5r : endM ssm2_5 (XFS tys ssf2 40 noY 9 ssm2_5.ags (startM ssm2_5)) = true := by kernel_rfl
end Go.XS.Tryz
