/- Calls of a closed run: runs 5. -/
import Derived.Test.YtpgpdmbhlpadmaaGreatVnTa
import Derived.Test.YtpgpdmbhlpadmaaGreatXsFast
set_option linter.unusedSimpArgs false
set_option linter.unusedVariables false
namespace Go.XS.Tryz
open Go Go.TS
set_option maxRecDepth 100000
set_option linter.unusedVariables false
theorem vnm1_0r : endM vnm1_0 (XFS tys vnf1 40 noY 56 vnm1_0.ags (startM vnm1_0)) = true := by kernel_rfl
theorem vnm1_1r : endM vnm1_1 (XFS tys vnf1 40 noY 56 vnm1_1.ags (startM vnm1_1)) = true := by kernel_rfl
theorem vnm1_2r : endM vnm1_2 (XFS tys vnf1 40 noY 56 vnm1_2.ags (startM vnm1_2)) = true := by kernel_rfl
theorem vnm1_3r : endM vnm1_3 (XFS tys vnf1 40 noY 56 vnm1_3.ags (startM vnm1_3)) = true := by kernel_rfl
theorem vnm1_4r : endM vnm1_4 (XFS tys vnf1 40 noY 56 vnm1_4.ags (startM vnm1_4)) = true := by kernel_rfl
theorem vnm1_5r : endM vnm1_5 (XFS tys vnf1 40 noY 56 vnm1_5.ags (startM vnm1_5)) = true := by kernel_rfl
theorem vnm1_6r : endM vnm1_6 (XFS tys vnf1 40 noY 56 vnm1_6.ags (startM vnm1_6)) = true := by kernel_rfl
theorem vnm1_7r : endM vnm1_7 (XFS tys vnf1 40 noY 56 vnm1_7.ags (startM vnm1_7)) = true := by kernel_rfl
theorem vnm1_8r : endM vnm1_8 (XFS tys vnf1 40 noY 56 vnm1_8.ags (startM vnm1_8)) = true := by kernel_rfl
theorem vnm1_9r : endM vnm1_9 (XFS tys vnf1 40 noY 56 vnm1_9.ags (startM vnm1_9)) = true := by kernel_rfl
theorem vnm1_10r : endM vnm1_10 (XFS tys vnf1 40 noY 56 vnm1_10.ags (startM vnm1_10)) = true := by kernel_rfl
theorem vnm1_11r : endM vnm1_11 (XFS tys vnf1 40 noY 56 vnm1_11.ags (startM vnm1_11)) = true := by kernel_rfl
theorem vnm2_0r : endM vnm2_0 (XFS tys vnf2 40 noY 18 vnm2_0.ags (startM vnm2_0)) = true := by kernel_rfl
theorem vnm2_1r : endM vnm2_1 (XFS tys vnf2 40 noY 18 vnm2_1.ags (startM vnm2_1)) = true := by kernel_rfl
theorem vnm2_2r : endM vnm2_2 (XFS tys vnf2 40 noY 18 vnm2_2.ags (startM vnm2_2)) = true := by kernel_rfl
theorem vnm2_3r : endM vnm2_3 (XFS tys vnf2 40 noY 18 vnm2_3.ags (startM vnm2_3)) = true := by kernel_rfl
theorem vnm2_4r : endM vnm2_4 (XFS tys vnf2 40 noY 18 vnm2_4.ags (startM vnm2_4)) = true := by kernel_rfl
theorem vnm2_5r : endM vnm2_5 (XFS tys vnf2 40 noY 18 vnm2_5.ags (startM vnm2_5)) = true := by kernel_rfl
end Go.XS.Tryz
