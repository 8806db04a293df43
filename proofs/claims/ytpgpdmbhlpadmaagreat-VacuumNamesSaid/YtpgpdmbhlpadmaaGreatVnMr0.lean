/- Calls of a closed run: runs 0. -/
import Derived.Test.YtpgpdmbhlpadmaaGreatVnTa
import Derived.Test.YtpgpdmbhlpadmaaGreatXsFast
set_option linter.unusedSimpArgs false
set_option linter.unusedVariables false
namespace Go.XS.Tryz
open Go Go.TS
set_option maxRecDepth 100000
set_option linter.unusedVariables false
theorem vnm0_0r : endM vnm0_0 (XFS tys fns 40 noY 262 vnm0_0.ags (startM vnm0_0)) = true := by kernel_rfl
theorem vnm0_1r : endM vnm0_1 (XFS tys fns 40 noY 262 vnm0_1.ags (startM vnm0_1)) = true := by kernel_rfl
theorem vnm0_2r : endM vnm0_2 (XFS tys fns 40 noY 262 vnm0_2.ags (startM vnm0_2)) = true := by kernel_rfl
theorem vnm0_3r : endM vnm0_3 (XFS tys fns 40 noY 262 vnm0_3.ags (startM vnm0_3)) = true := by kernel_rfl
theorem vnm0_4r : endM vnm0_4 (XFS tys fns 40 noY 262 vnm0_4.ags (startM vnm0_4)) = true := by kernel_rfl
theorem vnm0_5r : endM vnm0_5 (XFS tys fns 40 noY 262 vnm0_5.ags (startM vnm0_5)) = true := by kernel_rfl
end Go.XS.Tryz
