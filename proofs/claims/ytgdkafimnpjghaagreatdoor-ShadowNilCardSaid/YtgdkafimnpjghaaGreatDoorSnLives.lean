/- ShadowNames: the function that the law calls first, as a contract: the kernel runs it. -/
import Derived.Test.YtgdkafimnpjghaaGreatDoorProg
import Derived.Test.YtgdkafimnpjghaaGreatDoorXsClosed
import Derived.Test.YtgdkafimnpjghaaGreatDoorSnTa
import Derived.Test.YtgdkafimnpjghaaGreatDoorSnRunA
namespace Go.XS.Tryz
open Go Go.TS Go.Proofs
theorem fnL : fns 10 = some (.code (Tryz.f10.body.getD .skip) Tryz.f10.results.toList Tryz.f10.ntmps) := by kernel_rfl
theorem livesL (w : World) : Calls Tryz.prog 10 #[] w (Go.TS.Ret (fun v h => v = .bool true ∧ ∀ B, B < w.heap.size → h[B]? = w.heap[B]?) w) :=
  Go.XS.run_true Go.XS.Tryz.hm Go.XS.Tryz.tysOk Go.XS.Tryz.tyR fnsOk ixOk ixR fnL runA w
theorem soundL : Go.TS.Sound Tryz.prog 10 Go.XS.pTrue := Go.XS.sound_true Tryz.call10 livesL
end Go.XS.Tryz
