/- Calls of a closed run: runs 6. -/
import Derived.Test.YtpgpdmbhlpadmaaGreatEnTa
import Derived.Test.YtpgpdmbhlpadmaaGreatXsFast
namespace Go.XS.Tryz
open Go Go.TS
set_option maxRecDepth 100000
set_option linter.unusedVariables false
theorem enm1_0r : endM enm1_0 (XFS tys enf1 40 noY 56 enm1_0.ags (startM enm1_0)) = true := by kernel_rfl
theorem enm1_1r : endM enm1_1 (XFS tys enf1 40 noY 56 enm1_1.ags (startM enm1_1)) = true := by kernel_rfl
theorem enm1_2r : endM enm1_2 (XFS tys enf1 40 noY 56 enm1_2.ags (startM enm1_2)) = true := by kernel_rfl
theorem enm1_3r : endM enm1_3 (XFS tys enf1 40 noY 56 enm1_3.ags (startM enm1_3)) = true := by kernel_rfl
theorem enm1_4r : endM enm1_4 (XFS tys enf1 40 noY 56 enm1_4.ags (startM enm1_4)) = true := by kernel_rfl
theorem enm1_5r : endM enm1_5 (XFS tys enf1 40 noY 56 enm1_5.ags (startM enm1_5)) = true := by kernel_rfl
theorem enm1_6r : endM enm1_6 (XFS tys enf1 40 noY 56 enm1_6.ags (startM enm1_6)) = true := by kernel_rfl
theorem enm2_0r : endM enm2_0 (XFS tys enf2 40 noY 18 enm2_0.ags (startM enm2_0)) = true := by kernel_rfl
theorem enm2_1r : endM enm2_1 (XFS tys enf2 40 noY 18 enm2_1.ags (startM enm2_1)) = true := by kernel_rfl
theorem enm2_2r : endM enm2_2 (XFS tys enf2 40 noY 18 enm2_2.ags (startM enm2_2)) = true := by kernel_rfl
theorem enm2_3r : endM enm2_3 (XFS tys enf2 40 noY 18 enm2_3.ags (startM enm2_3)) = true := by kernel_rfl
theorem enm2_4r : endM enm2_4 (XFS tys enf2 40 noY 18 enm2_4.ags (startM enm2_4)) = true := by kernel_rfl
theorem enm2_5r : endM enm2_5 (XFS tys enf2 40 noY 18 enm2_5.ags (startM enm2_5)) = true := by kernel_rfl
end Go.XS.Tryz
/- Calls of a closed run: runs 7. -/
namespace Go.XS.Tryz
open Go Go.TS
set_option maxRecDepth 100000
set_option linter.unusedVariables false
theorem enm3_0r : endM enm3_0 (XFS tys enf3 40 noY 19 enm3_0.ags (startM enm3_0)) = true := by kernel_rfl
theorem enm3_1r : endM enm3_1 (XFS tys enf3 40 noY 19 enm3_1.ags (startM enm3_1)) = true := by kernel_rfl
theorem enm4_0r : endM enm4_0 (XFS tys enf4 40 noY 23 enm4_0.ags (startM enm4_0)) = true := by kernel_rfl
theorem enm5_0r : endM enm5_0 (XFS tys enf5 40 noY 4 enm5_0.ags (startM enm5_0)) = true := by kernel_rfl
end Go.XS.Tryz
