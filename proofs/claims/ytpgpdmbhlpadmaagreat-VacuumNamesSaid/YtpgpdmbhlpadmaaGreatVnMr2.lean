/- Calls of a closed run: runs 2. -/
import Derived.Test.YtpgpdmbhlpadmaaGreatVnTa
import Derived.Test.YtpgpdmbhlpadmaaGreatXsFast
set_option linter.unusedSimpArgs false
set_option linter.unusedVariables false
namespace Go.XS.Tryz
open Go Go.TS
set_option maxRecDepth 100000
set_option linter.unusedVariables false
theorem vnm0_12r : endM vnm0_12 (XFS tys fns 40 noY 262 vnm0_12.ags (startM vnm0_12)) = true := by kernel_rfl
theorem vnm0_13r : endM vnm0_13 (XFS tys fns 40 noY 262 vnm0_13.ags (startM vnm0_13)) = true := by kernel_rfl
theorem vnm0_14r : endM vnm0_14 (XFS tys fns 40 noY 262 vnm0_14.ags (startM vnm0_14)) = true := by kernel_rfl
theorem vnm0_15r : endM vnm0_15 (XFS tys fns 40 noY 262 vnm0_15.ags (startM vnm0_15)) = true := by kernel_rfl
theorem vnm0_16r : endM vnm0_16 (XFS tys fns 40 noY 262 vnm0_16.ags (startM vnm0_16)) = true := by kernel_rfl
theorem vnm0_17r : endM vnm0_17 (XFS tys fns 40 noY 262 vnm0_17.ags (startM vnm0_17)) = true := by kernel_rfl
end Go.XS.Tryz
