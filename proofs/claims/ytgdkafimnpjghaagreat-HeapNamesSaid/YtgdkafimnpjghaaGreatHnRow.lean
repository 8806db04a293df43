/- HeapNames returns true: the run of its code over abstract memory, which the kernel does, is true. No condition: the law has no parameter. -/
import Derived.Test.YtgdkafimnpjghaaGreatRows
import Derived.WalkKit
import Derived.ProofKit
import Derived.OpenShut
import Derived.Test.YtgdkafimnpjghaaGreatXsClosed
import Derived.Test.YtgdkafimnpjghaaGreatHnTa
import Derived.Test.YtgdkafimnpjghaaGreatHnRunA
import Derived.Test.YtgdkafimnpjghaaGreatHnRunB
namespace Go.Proofs.YtgdkafimnpjghaaGreat.heapNames
open Go.ChangeShapes Go.WideShapes Go.ChangeAt Go.RowKit
theorem own : ownKnob Tryz.prog.godebug = none := by kernel_rfl
theorem fnL : Go.XS.Tryz.fns 7 = some (.code (Tryz.f7.body.getD .skip) Tryz.f7.results.toList Tryz.f7.ntmps) := by kernel_rfl
theorem lives (w : World) : Calls Tryz.prog 7 #[] w (Go.TS.Ret (fun v h => v = .bool true ∧ ∀ B, B < w.heap.size → h[B]? = w.heap[B]?) w) :=
  Go.XS.run_true Go.XS.Tryz.hm Go.XS.Tryz.tysOk Go.XS.Tryz.tyR Go.XS.Tryz.fnsOk Go.XS.Tryz.ixOk Go.XS.Tryz.ixR fnL Go.XS.Tryz.runA w
theorem fnB : Go.XS.overF Go.XS.Tryz.fns 7 Go.XS.iTrue 4 = some (.code (Tryz.f4.body.getD .skip) Tryz.f4.results.toList Tryz.f4.ntmps) := by kernel_rfl
theorem soundL : Go.TS.Sound Tryz.prog 7 Go.XS.pTrue := Go.XS.sound_true Tryz.call7 lives
theorem walk (w : World) : Calls Tryz.prog 4 #[] w fun e w' => e = .returned (.bool true) ∧ Go.XS.Old w w' :=
  Go.XS.run_old (Go.XS.run_true Go.XS.Tryz.hm Go.XS.Tryz.tysOk Go.XS.Tryz.tyR (Go.XS.FnsOk.over Go.XS.Tryz.fnsOk 7 Go.XS.iTrue) (Go.XS.IxOk.over Go.XS.Tryz.ixOk soundL) (Go.XS.IxR.over Go.XS.Tryz.ixR Go.XS.iTrue_R1) fnB Go.XS.Tryz.runB w)
set_option maxRecDepth 100000 in
theorem lifted (os : Os) (started : os.Started) (H : Type) (enc : TypeId × Value → H) :
    ReturnsInHanded {} Tryz.checked os 4 .any (Rows.heapNamesSpec.pre6 enc Tryz.prog Tryz.f4 Rows.heapNamesRow.domain false) (Rows.heapNamesSpec.post enc Tryz.prog Tryz.f4 false true false false) := by
  refine returnsInHanded_of_change (C := Tryz.checked) own started (by kernel_rfl) Tryz.func4
    (ChangeSpec.witness6 (enc := enc) (C := Tryz.checked) false ⟨#[], #[], []⟩ 8 (by kernel_rfl) (by kernel_rfl) (by kernel_rfl) (by kernel_rfl)) ?_
  intro W base args ds gs before hval0 hW hcnd _
  have hW' := hW
  obtain ⟨p, q, hA0, hV, rfl, hfz, hnd⟩ := hW
  have hA : DataW.TrodAll enc Tryz.prog W 0 (fun _ => true) true Tryz.f4.params.toList args.toList ds p := hA0
  rw [Tryz.params4] at hA
  obtain ⟨rfl, rfl, rfl⟩ := trodAll_none hA
  obtain ⟨rfl, rfl⟩ := trodVars_none hV
  clear hA0 hval0
  simp only [List.append_nil] at hW'
  refine (walk W).mono fun e W' ⟨he, hg⟩ => ?_
  subst he
  exact ⟨_, rfl, Go.XS.post_closed hW' hg (fun _ _ _ => (trodAll_cons_mk (shut_bool Tryz.underlying4 _) trodAll_mk0)) (fun _ => rfl) (fun _ => rfl) (fun _ => rfl) (fun _ => rfl) (ok_one (by kernel_rfl) rfl (okWide_bool_mk Tryz.underlying4 _))⟩
theorem over : Rows.heapNamesRow.holds Tryz.pinned (OpenSpec.ofChange Rows.heapNamesSpec) :=
  OpenClaim.holds_of_wide 4 Tryz.f4 rfl rfl rfl rfl rfl rfl rfl ⟨rfl, rfl, rfl, rfl, rfl⟩ rfl rfl rfl rfl rfl (by kernel_rfl) Tryz.func4 (by kernel_rfl)
    (of_decide_eq_true (by kernel_rfl)) (by unfold Func.isWrapper; first | (rw [if_pos (by decide +kernel)]; kernel_rfl) | (rw [if_neg (by decide +kernel)]; exact ⟨rfl, rfl⟩))
    (fun os started H enc _ => lifted os started H enc)
end Go.Proofs.YtgdkafimnpjghaaGreat.heapNames
namespace Go.Proofs.YtgdkafimnpjghaaGreat
theorem heapNames_proved : Rows.HeapNamesSaid := heapNames.over
end Go.Proofs.YtgdkafimnpjghaaGreat
