/- Calls of a closed run: runs 3. -/
import Derived.Test.YtpgpdmbhlpadmaaGreatVnTa
import Derived.Test.YtpgpdmbhlpadmaaGreatXsFast
set_option linter.unusedSimpArgs false
set_option linter.unusedVariables false
namespace Go.XS.Tryz
open Go Go.TS
set_option maxRecDepth 100000
set_option linter.unusedVariables false
theorem vnm0_18r : endM vnm0_18 (XFS tys fns 40 noY 262 vnm0_18.ags (startM vnm0_18)) = true := by kernel_rfl
theorem vnm0_19r : endM vnm0_19 (XFS tys fns 40 noY 262 vnm0_19.ags (startM vnm0_19)) = true := by kernel_rfl
theorem vnm0_20r : endM vnm0_20 (XFS tys fns 40 noY 262 vnm0_20.ags (startM vnm0_20)) = true := by kernel_rfl
theorem vnm0_21r : endM vnm0_21 (XFS tys fns 40 noY 262 vnm0_21.ags (startM vnm0_21)) = true := by kernel_rfl
theorem vnm0_22r : endM vnm0_22 (XFS tys fns 40 noY 262 vnm0_22.ags (startM vnm0_22)) = true := by kernel_rfl
theorem vnm0_23r : endM vnm0_23 (XFS tys fns 40 noY 262 vnm0_23.ags (startM vnm0_23)) = true := by kernel_rfl
end Go.XS.Tryz
