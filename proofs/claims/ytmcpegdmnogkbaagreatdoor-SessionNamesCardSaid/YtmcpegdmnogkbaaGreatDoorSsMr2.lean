/- Calls of a closed run: runs 2. -/
import Derived.Test.YtmcpegdmnogkbaaGreatDoorSsTa
import Derived.Test.YtmcpegdmnogkbaaGreatDoorXsFast
set_option linter.unusedSimpArgs false
set_option linter.unusedVariables false
namespace Go.XS.Tryz
open Go Go.TS
set_option maxRecDepth 100000
set_option linter.unusedVariables false
theorem ssm2_6r : endM ssm2_6 (XFS tys ssf2 40 noY 9 ssm2_6.ags (startM ssm2_6)) = true := by kernel_rfl
theorem ssm2_7r : endM ssm2_7 (XFS tys ssf2 40 noY 9 ssm2_7.ags (startM ssm2_7)) = true := by kernel_rfl
theorem ssm2_8r : endM ssm2_8 (XFS tys ssf2 40 noY 9 ssm2_8.ags (startM ssm2_8)) = true := by kernel_rfl
theorem ssm2_9r : endM ssm2_9 (XFS tys ssf2 40 noY 9 ssm2_9.ags (startM ssm2_9)) = true := by kernel_rfl
theorem ssm2_10r : endM ssm2_10 (XFS tys ssf2 40 noY 9 ssm2_10.ags (startM ssm2_10)) = true := by kernel_rfl
end Go.XS.Tryz
