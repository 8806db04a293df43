/- Calls of a closed run: runs 4. -/
import Derived.Test.YtpgpdmbhlpadmaaGreatVnTa
import Derived.Test.YtpgpdmbhlpadmaaGreatXsFast
set_option linter.unusedSimpArgs false
set_option linter.unusedVariables false
namespace Go.XS.Tryz
open Go Go.TS
set_option maxRecDepth 100000
set_option linter.unusedVariables false
theorem vnm0_24r : endM vnm0_24 (XFS tys fns 40 noY 262 vnm0_24.ags (startM vnm0_24)) = true := by kernel_rfl
theorem vnm0_25r : endM vnm0_25 (XFS tys fns 40 noY 262 vnm0_25.ags (startM vnm0_25)) = true := by kernel_rfl
theorem vnm0_26r : endM vnm0_26 (XFS tys fns 40 noY 262 vnm0_26.ags (startM vnm0_26)) = true := by kernel_rfl
theorem vnm0_27r : endM vnm0_27 (XFS tys fns 40 noY 262 vnm0_27.ags (startM vnm0_27)) = true := by kernel_rfl
theorem vnm0_28r : endM vnm0_28 (XFS tys fns 40 noY 262 vnm0_28.ags (startM vnm0_28)) = true := by kernel_rfl
theorem vnm0_29r : endM vnm0_29 (XFS tys fns 40 noY 262 vnm0_29.ags (startM vnm0_29)) = true := by kernel_rfl
end Go.XS.Tryz
