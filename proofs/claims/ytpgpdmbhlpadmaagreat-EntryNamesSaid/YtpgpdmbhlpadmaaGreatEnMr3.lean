/- Calls of a closed run: runs 3. -/
import Derived.Test.YtpgpdmbhlpadmaaGreatEnTa
import Derived.Test.YtpgpdmbhlpadmaaGreatXsFast
namespace Go.XS.Tryz
open Go Go.TS
set_option maxRecDepth 100000
set_option linter.unusedVariables false
theorem enm0_6r : endM enm0_6 (XFS tys fns 40 noY 262 enm0_6.ags (startM enm0_6)) = true := by kernel_rfl
theorem enm0_7r : endM enm0_7 (XFS tys fns 40 noY 262 enm0_7.ags (startM enm0_7)) = true := by kernel_rfl
end Go.XS.Tryz
