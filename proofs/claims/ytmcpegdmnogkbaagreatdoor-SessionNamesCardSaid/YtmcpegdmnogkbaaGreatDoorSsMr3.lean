/- Calls of a closed run: runs 3. -/
import Derived.Test.YtmcpegdmnogkbaaGreatDoorSsTa
import Derived.Test.YtmcpegdmnogkbaaGreatDoorXsFast
set_option linter.unusedSimpArgs false
set_option linter.unusedVariables false
namespace Go.XS.Tryz
open Go Go.TS
set_option maxRecDepth 100000
set_option linter.unusedVariables false
theorem ssm2_11r : endM ssm2_11 (XFS tys ssf2 40 noY 9 ssm2_11.ags (startM ssm2_11)) = true := by kernel_rfl
theorem ssm2_12r : endM ssm2_12 (XFS tys ssf2 40 noY 9 ssm2_12.ags (startM ssm2_12)) = true := by kernel_rfl
theorem ssm3_0r : endM ssm3_0 (XFS tys ssf3 40 noY 12 ssm3_0.ags (startM ssm3_0)) = true := by kernel_rfl
theorem ssm4_0r : endM ssm4_0 (XFS tys ssf4 40 noY 3 ssm4_0.ags (startM ssm4_0)) = true := by kernel_rfl
end Go.XS.Tryz
