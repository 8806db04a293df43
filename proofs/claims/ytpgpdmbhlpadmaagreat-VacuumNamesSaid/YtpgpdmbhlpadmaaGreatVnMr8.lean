/- Calls of a closed run: runs 8. -/
import Derived.Test.YtpgpdmbhlpadmaaGreatVnTa
import Derived.Test.YtpgpdmbhlpadmaaGreatXsFast
set_option linter.unusedSimpArgs false
set_option linter.unusedVariables false
namespace Go.XS.Tryz
open Go Go.TS
set_option maxRecDepth 100000
set_option linter.unusedVariables false
theorem vnm11_0r : endM vnm11_0 (XFS tys vnf11 40 noY 3 vnm11_0.ags (startM vnm11_0)) = true := by kernel_rfl
end Go.XS.Tryz
