/- Calls of a closed run: runs 1. -/
import Derived.Test.YtpgpdmbhlpadmaaGreatVnTa
import Derived.Test.YtpgpdmbhlpadmaaGreatXsFast
set_option linter.unusedSimpArgs false
set_option linter.unusedVariables false
namespace Go.XS.Tryz
open Go Go.TS
set_option maxRecDepth 100000
set_option linter.unusedVariables false
theorem vnm0_6r : endM vnm0_6 (XFS tys fns 40 noY 262 vnm0_6.ags (startM vnm0_6)) = true := by kernel_rfl
theorem vnm0_7r : endM vnm0_7 (XFS tys fns 40 noY 262 vnm0_7.ags (startM vnm0_7)) = true := by kernel_rfl
theorem vnm0_8r : endM vnm0_8 (XFS tys fns 40 noY 262 vnm0_8.ags (startM vnm0_8)) = true := by kernel_rfl
theorem vnm0_9r : endM vnm0_9 (XFS tys fns 40 noY 262 vnm0_9.ags (startM vnm0_9)) = true := by kernel_rfl
theorem vnm0_10r : endM vnm0_10 (XFS tys fns 40 noY 262 vnm0_10.ags (startM vnm0_10)) = true := by kernel_rfl
theorem vnm0_11r : endM vnm0_11 (XFS tys fns 40 noY 262 vnm0_11.ags (startM vnm0_11)) = true := by kernel_rfl
end Go.XS.Tryz
