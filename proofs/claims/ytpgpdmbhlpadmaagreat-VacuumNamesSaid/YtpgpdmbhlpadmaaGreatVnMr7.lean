/- Calls of a closed run: runs 7. -/
import Derived.Test.YtpgpdmbhlpadmaaGreatVnTa
import Derived.Test.YtpgpdmbhlpadmaaGreatXsFast
set_option linter.unusedSimpArgs false
set_option linter.unusedVariables false
namespace Go.XS.Tryz
open Go Go.TS
set_option maxRecDepth 100000
set_option linter.unusedVariables false
theorem vnm6_1r : endM vnm6_1 (XFS tys vnf6 40 noY 49 vnm6_1.ags (startM vnm6_1)) = true := by kernel_rfl
theorem vnm7_0r : endM vnm7_0 (XFS tys vnf7 40 noY 11 vnm7_0.ags (startM vnm7_0)) = true := by kernel_rfl
theorem vnm7_1r : endM vnm7_1 (XFS tys vnf7 40 noY 11 vnm7_1.ags (startM vnm7_1)) = true := by kernel_rfl
theorem vnm7_2r : endM vnm7_2 (XFS tys vnf7 40 noY 11 vnm7_2.ags (startM vnm7_2)) = true := by kernel_rfl
theorem vnm7_3r : endM vnm7_3 (XFS tys vnf7 40 noY 11 vnm7_3.ags (startM vnm7_3)) = true := by kernel_rfl
theorem vnm7_4r : endM vnm7_4 (XFS tys vnf7 40 noY 11 vnm7_4.ags (startM vnm7_4)) = true := by kernel_rfl
theorem vnm7_5r : endM vnm7_5 (XFS tys vnf7 40 noY 11 vnm7_5.ags (startM vnm7_5)) = true := by kernel_rfl
theorem vnm7_6r : endM vnm7_6 (XFS tys vnf7 40 noY 11 vnm7_6.ags (startM vnm7_6)) = true := by kernel_rfl
theorem vnm8_0r : endM vnm8_0 (XFS tys vnf8 40 noY 12 vnm8_0.ags (startM vnm8_0)) = true := by kernel_rfl
theorem vnm8_1r : endM vnm8_1 (XFS tys vnf8 40 noY 12 vnm8_1.ags (startM vnm8_1)) = true := by kernel_rfl
theorem vnm8_2r : endM vnm8_2 (XFS tys vnf8 40 noY 12 vnm8_2.ags (startM vnm8_2)) = true := by kernel_rfl
theorem vnm9_0r : endM vnm9_0 (XFS tys vnf9 40 noY 6 vnm9_0.ags (startM vnm9_0)) = true := by kernel_rfl
theorem vnm9_1r : endM vnm9_1 (XFS tys vnf9 40 noY 6 vnm9_1.ags (startM vnm9_1)) = true := by kernel_rfl
theorem vnm10_0r : endM vnm10_0 (XFS tys vnf10 40 noY 15 vnm10_0.ags (startM vnm10_0)) = true := by kernel_rfl
end Go.XS.Tryz
