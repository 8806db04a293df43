/- Calls of a closed run: runs 6. -/
import Derived.Test.YtpgpdmbhlpadmaaGreatVnTa
import Derived.Test.YtpgpdmbhlpadmaaGreatXsFast
set_option linter.unusedSimpArgs false
set_option linter.unusedVariables false
namespace Go.XS.Tryz
open Go Go.TS
set_option maxRecDepth 100000
set_option linter.unusedVariables false
theorem vnm2_6r : endM vnm2_6 (XFS tys vnf2 40 noY 18 vnm2_6.ags (startM vnm2_6)) = true := by kernel_rfl
theorem vnm2_7r : endM vnm2_7 (XFS tys vnf2 40 noY 18 vnm2_7.ags (startM vnm2_7)) = true := by kernel_rfl
theorem vnm3_0r : endM vnm3_0 (XFS tys vnf3 40 noY 19 vnm3_0.ags (startM vnm3_0)) = true := by kernel_rfl
theorem vnm3_1r : endM vnm3_1 (XFS tys vnf3 40 noY 19 vnm3_1.ags (startM vnm3_1)) = true := by kernel_rfl
theorem vnm3_2r : endM vnm3_2 (XFS tys vnf3 40 noY 19 vnm3_2.ags (startM vnm3_2)) = true := by kernel_rfl
theorem vnm3_3r : endM vnm3_3 (XFS tys vnf3 40 noY 19 vnm3_3.ags (startM vnm3_3)) = true := by kernel_rfl
theorem vnm4_0r : endM vnm4_0 (XFS tys vnf4 40 noY 7 vnm4_0.ags (startM vnm4_0)) = true := by kernel_rfl
theorem vnm4_1r : endM vnm4_1 (XFS tys vnf4 40 noY 7 vnm4_1.ags (startM vnm4_1)) = true := by kernel_rfl
theorem vnm4_2r : endM vnm4_2 (XFS tys vnf4 40 noY 7 vnm4_2.ags (startM vnm4_2)) = true := by kernel_rfl
theorem vnm4_3r : endM vnm4_3 (XFS tys vnf4 40 noY 7 vnm4_3.ags (startM vnm4_3)) = true := by kernel_rfl
theorem vnm4_4r : endM vnm4_4 (XFS tys vnf4 40 noY 7 vnm4_4.ags (startM vnm4_4)) = true := by kernel_rfl
theorem vnm4_5r : endM vnm4_5 (XFS tys vnf4 40 noY 7 vnm4_5.ags (startM vnm4_5)) = true := by kernel_rfl
theorem vnm4_6r : endM vnm4_6 (XFS tys vnf4 40 noY 7 vnm4_6.ags (startM vnm4_6)) = true := by kernel_rfl
theorem vnm4_7r : endM vnm4_7 (XFS tys vnf4 40 noY 7 vnm4_7.ags (startM vnm4_7)) = true := by kernel_rfl
theorem vnm5_0r : endM vnm5_0 (XFS tys vnf5 40 noY 109 vnm5_0.ags (startM vnm5_0)) = true := by kernel_rfl
theorem vnm5_1r : endM vnm5_1 (XFS tys vnf5 40 noY 109 vnm5_1.ags (startM vnm5_1)) = true := by kernel_rfl
theorem vnm6_0r : endM vnm6_0 (XFS tys vnf6 40 noY 49 vnm6_0.ags (startM vnm6_0)) = true := by kernel_rfl
end Go.XS.Tryz
