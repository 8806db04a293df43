/- Calls of a closed run: runs 1. -/
import Derived.Test.YtpgpdmbhlpadmaaGreatAnTa
import Derived.Test.YtpgpdmbhlpadmaaGreatXsFast
set_option linter.unusedSimpArgs false
set_option linter.unusedVariables false
namespace Go.XS.Tryz
open Go Go.TS
set_option maxRecDepth 100000
set_option linter.unusedVariables false
theorem anm2_1r : endM anm2_1 (XFS tys anf2 40 noY 29 anm2_1.ags (startM anm2_1)) = true := by kernel_rfl
theorem anm2_2r : endM anm2_2 (XFS tys anf2 40 noY 29 anm2_2.ags (startM anm2_2)) = true := by kernel_rfl
theorem anm2_3r : endM anm2_3 (XFS tys anf2 40 noY 29 anm2_3.ags (startM anm2_3)) = true := by kernel_rfl
theorem anm3_0r : endM anm3_0 (XFS tys anf3 40 noY 30 anm3_0.ags (startM anm3_0)) = true := by kernel_rfl
theorem anm4_0r : endM anm4_0 (XFS tys anf4 40 noY 5 anm4_0.ags (startM anm4_0)) = true := by kernel_rfl
end Go.XS.Tryz
