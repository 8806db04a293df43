/- Calls of a closed run: runs 2. -/
import Derived.Test.YtpgpdmbhlpadmaaGreatEnTa
import Derived.Test.YtpgpdmbhlpadmaaGreatXsFast
namespace Go.XS.Tryz
open Go Go.TS
set_option maxRecDepth 100000
set_option linter.unusedVariables false
theorem enm0_4r : endM enm0_4 (XFS tys fns 40 noY 262 enm0_4.ags (startM enm0_4)) = true := by kernel_rfl
theorem enm0_5r : endM enm0_5 (XFS tys fns 40 noY 262 enm0_5.ags (startM enm0_5)) = true := by kernel_rfl
end Go.XS.Tryz
