/- Calls of a closed run: runs 0. -/
import Derived.Test.YtpgpdmbhlpadmaaGreatAnTa
import Derived.Test.YtpgpdmbhlpadmaaGreatXsFast
set_option linter.unusedSimpArgs false
set_option linter.unusedVariables false
namespace Go.XS.Tryz
open Go Go.TS
set_option maxRecDepth 100000
set_option linter.unusedVariables false
theorem anm0_0r : endM anm0_0 (XFS tys fns 40 noY 33 anm0_0.ags (startM anm0_0)) = true := by kernel_rfl
theorem anm0_1r : endM anm0_1 (XFS tys fns 40 noY 33 anm0_1.ags (startM anm0_1)) = true := by kernel_rfl
theorem anm1_0r : endM anm1_0 (XFS tys anf1 40 noY 7 anm1_0.ags (startM anm1_0)) = true := by kernel_rfl
theorem anm2_0r : endM anm2_0 (XFS tys anf2 40 noY 29 anm2_0.ags (startM anm2_0)) = true := by kernel_rfl
end Go.XS.Tryz
