/- The run of the function that the law calls first. -/
import Derived.Test.YtgdkafimnpjghaaGreatHnTa
import Derived.Test.YtgdkafimnpjghaaGreatXsClosed
namespace Go.XS.Tryz
open Go Go.TS
theorem runA : okRun (XF tys fns 40 noY 7 [] h0) = true := by kernel_rfl
end Go.XS.Tryz
