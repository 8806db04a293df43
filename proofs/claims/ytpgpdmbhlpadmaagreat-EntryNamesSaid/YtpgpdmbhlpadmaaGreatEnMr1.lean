/- Calls of a closed run: runs 1. -/
import Derived.Test.YtpgpdmbhlpadmaaGreatEnTa
import Derived.Test.YtpgpdmbhlpadmaaGreatXsFast
namespace Go.XS.Tryz
open Go Go.TS
set_option maxRecDepth 100000
set_option linter.unusedVariables false
theorem enm0_2r : endM enm0_2 (XFS tys fns 40 noY 262 enm0_2.ags (startM enm0_2)) = true := by kernel_rfl
theorem enm0_3r : endM enm0_3 (XFS tys fns 40 noY 262 enm0_3.ags (startM enm0_3)) = true := by kernel_rfl
end Go.XS.Tryz
