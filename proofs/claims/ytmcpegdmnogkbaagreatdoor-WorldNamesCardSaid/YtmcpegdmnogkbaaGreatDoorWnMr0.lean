/- Calls of a closed run: runs 0. -/
import Derived.Test.YtmcpegdmnogkbaaGreatDoorWnTa
import Derived.Test.YtmcpegdmnogkbaaGreatDoorXsFast
set_option linter.unusedSimpArgs false
set_option linter.unusedVariables false
namespace Go.XS.Tryz
open Go Go.TS
set_option maxRecDepth 100000
set_option linter.unusedVariables false
theorem wnm0_0r : endM wnm0_0 (XFS tys fns 40 noY 60 wnm0_0.ags (startM wnm0_0)) = true := by kernel_rfl
theorem wnm0_1r : endM wnm0_1 (XFS tys fns 40 noY 60 wnm0_1.ags (startM wnm0_1)) = true := by kernel_rfl
theorem wnm1_0r : endM wnm1_0 (XFS tys wnf1 40 noY 9 wnm1_0.ags (startM wnm1_0)) = true := by kernel_rfl
theorem wnm1_1r : endM wnm1_1 (XFS tys wnf1 40 noY 9 wnm1_1.ags (startM wnm1_1)) = true := by kernel_rfl
theorem wnm2_0r : endM wnm2_0 (XFS tys wnf2 40 noY 20 wnm2_0.ags (startM wnm2_0)) = true := by kernel_rfl
theorem wnm3_0r : endM wnm3_0 (XFS tys wnf3 40 noY 4 wnm3_0.ags (startM wnm3_0)) = true := by kernel_rfl
end Go.XS.Tryz
