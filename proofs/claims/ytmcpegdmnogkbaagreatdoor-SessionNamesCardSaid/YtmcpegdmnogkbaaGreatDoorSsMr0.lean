/- Calls of a closed run: runs 0. -/
import Derived.Test.YtmcpegdmnogkbaaGreatDoorSsTa
import Derived.Test.YtmcpegdmnogkbaaGreatDoorXsFast
set_option linter.unusedSimpArgs false
set_option linter.unusedVariables false
namespace Go.XS.Tryz
open Go Go.TS
set_option maxRecDepth 100000
set_option linter.unusedVariables false
theorem ssm0_0r : endM ssm0_0 (XFS tys fns 40 noY 566 ssm0_0.ags (startM ssm0_0)) = true := by kernel_rfl
theorem ssm0_1r : endM ssm0_1 (XFS tys fns 40 noY 566 ssm0_1.ags (startM ssm0_1)) = true := by kernel_rfl
theorem ssm0_2r : endM ssm0_2 (XFS tys fns 40 noY 566 ssm0_2.ags (startM ssm0_2)) = true := by kernel_rfl
theorem ssm1_0r : endM ssm1_0 (XFS tys ssf1 40 noY 60 ssm1_0.ags (startM ssm1_0)) = true := by kernel_rfl
theorem ssm1_1r : endM ssm1_1 (XFS tys ssf1 40 noY 60 ssm1_1.ags (startM ssm1_1)) = true := by kernel_rfl
theorem ssm2_0r : endM ssm2_0 (XFS tys ssf2 40 noY 9 ssm2_0.ags (startM ssm2_0)) = true := by kernel_rfl
end Go.XS.Tryz
