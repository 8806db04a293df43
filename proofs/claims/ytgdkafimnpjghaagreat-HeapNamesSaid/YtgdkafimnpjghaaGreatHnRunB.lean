/- The run of the law. -/
import Derived.Test.YtgdkafimnpjghaaGreatHnTa
import Derived.Test.YtgdkafimnpjghaaGreatXsClosed
namespace Go.XS.Tryz
open Go Go.TS
theorem runB : okRun (XF tys (overF fns 7 iTrue) 40 noY 4 [] h0) = true := by kernel_rfl
end Go.XS.Tryz
