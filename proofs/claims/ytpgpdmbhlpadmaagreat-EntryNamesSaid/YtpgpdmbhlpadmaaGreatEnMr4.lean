/- Calls of a closed run: runs 4. -/
import Derived.Test.YtpgpdmbhlpadmaaGreatEnTa
import Derived.Test.YtpgpdmbhlpadmaaGreatXsFast
namespace Go.XS.Tryz
open Go Go.TS
set_option maxRecDepth 100000
set_option linter.unusedVariables false
theorem enm0_8r : endM enm0_8 (XFS tys fns 40 noY 262 enm0_8.ags (startM enm0_8)) = true := by kernel_rfl
theorem enm0_9r : endM enm0_9 (XFS tys fns 40 noY 262 enm0_9.ags (startM enm0_9)) = true := by kernel_rfl
end Go.XS.Tryz
/- Calls of a closed run: runs 5. -/
namespace Go.XS.Tryz
open Go Go.TS
set_option maxRecDepth 100000
set_option linter.unusedVariables false
theorem enm0_10r : endM enm0_10 (XFS tys fns 40 noY 262 enm0_10.ags (startM enm0_10)) = true := by kernel_rfl
theorem enm0_11r : endM enm0_11 (XFS tys fns 40 noY 262 enm0_11.ags (startM enm0_11)) = true := by kernel_rfl
end Go.XS.Tryz
