/- Calls of a closed run: runs 0. -/
import Derived.Test.YtpgpdmbhlpadmaaGreatEnTa
import Derived.Test.YtpgpdmbhlpadmaaGreatXsFast
namespace Go.XS.Tryz
open Go Go.TS
set_option maxRecDepth 100000
set_option linter.unusedVariables false
theorem enm0_0r : endM enm0_0 (XFS tys fns 40 noY 262 enm0_0.ags (startM enm0_0)) = true := by kernel_rfl
theorem enm0_1r : endM enm0_1 (XFS tys fns 40 noY 262 enm0_1.ags (startM enm0_1)) = true := by kernel_rfl
end Go.XS.Tryz
