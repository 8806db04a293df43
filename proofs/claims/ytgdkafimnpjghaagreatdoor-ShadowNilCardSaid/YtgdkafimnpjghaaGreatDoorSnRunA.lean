/- The run of the function that the law calls first. -/
import Derived.Test.YtgdkafimnpjghaaGreatDoorSnTa
import Derived.Test.YtgdkafimnpjghaaGreatDoorXsClosed
namespace Go.XS.Tryz
open Go Go.TS
theorem runA : okRun (XF tys fns 40 noY 10 [] h0) = true := by kernel_rfl
end Go.XS.Tryz
