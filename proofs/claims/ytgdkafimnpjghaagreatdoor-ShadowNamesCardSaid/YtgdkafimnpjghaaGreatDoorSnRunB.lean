/- The run of the law. -/
import Derived.Test.YtgdkafimnpjghaaGreatDoorSnTa
import Derived.Test.YtgdkafimnpjghaaGreatDoorXsClosed
namespace Go.XS.Tryz
open Go Go.TS
theorem runB : okRun (XF tys (overF fns 10 iTrue) 40 noY 4 [] h0) = true := by kernel_rfl
end Go.XS.Tryz
