/- ShadowNames returns true: the run of its code over abstract memory, which the kernel does, is true. No condition: the law has no parameter. -/
import Derived.Test.YtgdkafimnpjghaaGreatDoorCards
import Derived.Test.YtgdkafimnpjghaaGreatDoorTie
import Derived.WalkKit
import Derived.ProofKit
import Derived.OpenShut
import Derived.LaidMore
import Derived.Lay
import Derived.SevenTiedAt
import Derived.Stop.Joined
import Derived.Test.YtgdkafimnpjghaaGreatDoorXsClosed
import Derived.Test.YtgdkafimnpjghaaGreatDoorSnTa
import Derived.Test.YtgdkafimnpjghaaGreatDoorSnRunA
import Derived.Test.YtgdkafimnpjghaaGreatDoorSnRunB
namespace Go.Proofs.YtgdkafimnpjghaaGreatDoor.shadowNames
open Go.ChangeShapes Go.WideShapes Go.ChangeAt Go.RowKit
theorem own : ownKnob Tryz.prog.godebug = none := by kernel_rfl
theorem fnL : Go.XS.Tryz.fns 10 = some (.code (Tryz.f10.body.getD .skip) Tryz.f10.results.toList Tryz.f10.ntmps) := by kernel_rfl
theorem lives (w : World) : Calls Tryz.prog 10 #[] w (Go.TS.Ret (fun v h => v = .bool true ∧ ∀ B, B < w.heap.size → h[B]? = w.heap[B]?) w) :=
  Go.XS.run_true Go.XS.Tryz.hm Go.XS.Tryz.tysOk Go.XS.Tryz.tyR Go.XS.Tryz.fnsOk Go.XS.Tryz.ixOk Go.XS.Tryz.ixR fnL Go.XS.Tryz.runA w
theorem fnB : Go.XS.overF Go.XS.Tryz.fns 10 Go.XS.iTrue 4 = some (.code (Tryz.f4.body.getD .skip) Tryz.f4.results.toList Tryz.f4.ntmps) := by kernel_rfl
theorem soundL : Go.TS.Sound Tryz.prog 10 Go.XS.pTrue := Go.XS.sound_true Tryz.call10 lives
theorem walk (w : World) : Calls Tryz.prog 4 #[] w fun e w' => e = .returned (.bool true) ∧ Go.XS.Old w w' :=
  Go.XS.run_old (Go.XS.run_true Go.XS.Tryz.hm Go.XS.Tryz.tysOk Go.XS.Tryz.tyR (Go.XS.FnsOk.over Go.XS.Tryz.fnsOk 10 Go.XS.iTrue) (Go.XS.IxOk.over Go.XS.Tryz.ixOk soundL) (Go.XS.IxR.over Go.XS.Tryz.ixR Go.XS.iTrue_R1) fnB Go.XS.Tryz.runB w)
set_option maxRecDepth 100000 in
theorem lifted (os : Os) (started : os.Started) (H : Type) (enc : TypeId × Value → H) :
    ReturnsInHanded {} Tryz.checked os 4 .any (fun w args => (Rows.shadowNamesSpec.pre enc Tryz.prog Tryz.f4 Rows.shadowNamesRow.domain false w args ∧ laidMetH Tryz.prog Rows.shadowNamesRow.laid w) ∧ sizedMet enc Tryz.prog Tryz.f4 (OpenSpec.ofChange Rows.shadowNamesSpec) false w args)
      (Rows.shadowNamesSpec.post enc Tryz.prog Tryz.f4 false true false false) := by
  refine returnsInHanded_of_change_and (C := Tryz.checked) (X := fun w _ => laidMetH Tryz.prog Rows.shadowNamesRow.laid w) (fun _ _ _ hh h => h.of_heap hh) own started (by kernel_rfl) Tryz.func4
    (ChangeSpec.witness_shaped (enc := enc) (C := Tryz.checked) (os := os) (X := fun w _ => laidMetH Tryz.prog Rows.shadowNamesRow.laid w) false (World.laidAll Tryz.prog os Rows.shadowNamesRow.laid) #[] 8 (World.laidAll_os _ _ _)
      (World.shaped_of_ZipB (by kernel_rfl) (by kernel_rfl)) (by kernel_rfl) (by kernel_rfl) (by kernel_rfl)
      (by rw [MakeChecks.laidMetH_plain _ _ _ (by kernel_rfl)]; exact laidMet_laidAll _ (by kernel_rfl) (by kernel_rfl))) ?_
  intro W base args ds gs before hval0 hW hcnd _ hL _
  have hW' := hW
  obtain ⟨p, q, hA0, hV, rfl, hfz, hnd⟩ := hW
  have hA : DataW.TrodAll enc Tryz.prog W 0 (fun _ => true) true Tryz.f4.params.toList args.toList ds p := hA0
  rw [Tryz.params4] at hA
  obtain ⟨rfl, rfl, rfl⟩ := trodAll_none hA
  obtain ⟨rfl, rfl⟩ := trodVars_none hV
  clear hA0 hval0
  simp only [List.append_nil] at hW'
  refine (walk W).mono fun e W' ⟨he, hg⟩ => ?_
  subst he
  exact ⟨_, rfl, Go.XS.post_closed hW' hg (fun _ _ _ => (trodAll_cons_mk (shut_bool Tryz.underlying4 _) trodAll_mk0)) (fun _ => rfl) (fun _ => rfl) (fun _ => rfl) (fun _ => rfl) (ok_one (by kernel_rfl) rfl (okWide_bool_mk Tryz.underlying4 _))⟩
theorem over : Rows.shadowNamesRow.holds Tryz.pinned (OpenSpec.ofChange Rows.shadowNamesSpec) :=
  OpenClaim.holds_of_wide 4 Tryz.f4 rfl rfl rfl rfl rfl rfl rfl ⟨rfl, rfl, rfl, rfl, rfl⟩ rfl rfl rfl rfl rfl (by kernel_rfl) Tryz.func4 (by kernel_rfl)
    (of_decide_eq_true (by kernel_rfl)) (by unfold Func.isWrapper; first | (rw [if_pos (by decide +kernel)]; kernel_rfl) | (rw [if_neg (by decide +kernel)]; exact ⟨rfl, rfl⟩))
    (fun os started H enc _ => lifted os started H enc)
theorem card : Rows.ShadowNamesCardSaid :=
  Claim7.holds_tied_plain_at .later [] [.data, .pinned] true (true, "18ba16e29fd1fd11e836014b15981e761c0529e013476e42fc574b9111c26951") false over (fun _ h => by cases h) (by kernel_rfl) (fun _ h => by cases h) shadowNames_row_tie rfl ⟨rfl, rfl⟩ (by kernel_rfl) rfl
    (fun f fn hf hfn => by
      obtain rfl : f = 4 := Option.some.inj ((show Tryz.prog.funcNamed "tallyman/tallymanlaw11.ShadowNames" = some 4 by kernel_rfl).symm.trans hf) |>.symm
      obtain rfl : fn = Tryz.f4 := (Option.some.inj (Tryz.func4.symm.trans hfn)).symm
      exact ⟨by kernel_rfl, fun j t ht => by
        rw [Tryz.params4] at ht
        simp at ht⟩)
    (by kernel_rfl)
end Go.Proofs.YtgdkafimnpjghaaGreatDoor.shadowNames
namespace Go.Proofs.YtgdkafimnpjghaaGreatDoor
theorem shadowNames_proved : Rows.ShadowNamesCardSaid := shadowNames.card
end Go.Proofs.YtgdkafimnpjghaaGreatDoor
