/- WorldNames returns true: the runs of its calls over abstract memory, which the kernel does, are true. No condition: the law has no parameter. -/
import Derived.Test.YtmcpegdmnogkbaaGreatDoorCards
import Derived.Test.YtmcpegdmnogkbaaGreatDoorTie
import Derived.WalkKit
import Derived.ProofKit
import Derived.OpenShut
import Derived.LaidMore
import Derived.Lay
import Derived.SevenTiedAt
import Derived.Stop.Joined
import Derived.Test.YtmcpegdmnogkbaaGreatDoorXsClosed
import Derived.Test.YtmcpegdmnogkbaaGreatDoorWnJf
import Derived.Test.YtmcpegdmnogkbaaGreatDoorWnCf
import Derived.Test.YtmcpegdmnogkbaaGreatDoorWnFb
set_option linter.unusedSimpArgs false
set_option linter.unusedVariables false
namespace Go.Proofs.YtmcpegdmnogkbaaGreatDoor.worldNames
open Go.ChangeShapes Go.WideShapes Go.ChangeAt Go.RowKit
theorem own : ownKnob Tryz.prog.godebug = none := by kernel_rfl
theorem walk (w : World) : Calls Tryz.prog 4 #[] w fun e w' => e = .returned (.bool true) ∧ Go.XS.Old w w' :=
  Go.XS.run_old (Go.XS.RunOf.closed Go.XS.Tryz.wnm3_0R rfl rfl rfl rfl w)
set_option maxRecDepth 100000 in
theorem lifted (os : Os) (started : os.Started) (H : Type) (enc : TypeId × Value → H) :
    ReturnsInHanded {} Tryz.checked os 4 .any (fun w args => (Rows.worldNamesSpec.pre enc Tryz.prog Tryz.f4 Rows.worldNamesRow.domain false w args ∧ laidMetH Tryz.prog Rows.worldNamesRow.laid w) ∧ sizedMet enc Tryz.prog Tryz.f4 (OpenSpec.ofChange Rows.worldNamesSpec) false w args)
      (Rows.worldNamesSpec.post enc Tryz.prog Tryz.f4 false true false false) := by
  refine returnsInHanded_of_change_and (C := Tryz.checked) (X := fun w _ => laidMetH Tryz.prog Rows.worldNamesRow.laid w) (fun _ _ _ hh h => h.of_heap hh) own started (by kernel_rfl) Tryz.func4
    (ChangeSpec.witness_shaped (enc := enc) (C := Tryz.checked) (os := os) (X := fun w _ => laidMetH Tryz.prog Rows.worldNamesRow.laid w) false (World.laidAll Tryz.prog os Rows.worldNamesRow.laid) #[] 8 (World.laidAll_os _ _ _)
      (World.shaped_of_ZipB (by kernel_rfl) (by kernel_rfl)) (by kernel_rfl) (by kernel_rfl) (by kernel_rfl)
      (by rw [MakeChecks.laidMetH_plain _ _ _ (by kernel_rfl)]; exact laidMet_laidAll _ (by kernel_rfl) (by kernel_rfl))) ?_
  intro W base args ds gs before hval0 hW hcnd _ hL _
  have hW' := hW
  obtain ⟨p, q, hA0, hV, rfl, hfz, hnd⟩ := hW
  have hA : DataW.TrodAll enc Tryz.prog W 0 (fun _ => true) true Tryz.f4.params.toList args.toList ds p := hA0
  rw [Tryz.params4] at hA
  obtain ⟨rfl, rfl, rfl⟩ := trodAll_none hA
  obtain ⟨rfl, rfl⟩ := trodVars_none hV
  clear hA0 hval0
  simp only [List.append_nil] at hW'
  refine (walk W).mono fun e W' ⟨he, hg⟩ => ?_
  subst he
  exact ⟨_, rfl, Go.XS.post_closed hW' hg (fun _ _ _ => (trodAll_cons_mk (shut_bool Tryz.underlying4 _) trodAll_mk0)) (fun _ => rfl) (fun _ => rfl) (fun _ => rfl) (fun _ => rfl) (ok_one (by kernel_rfl) rfl (okWide_bool_mk Tryz.underlying4 _))⟩
theorem over : Rows.worldNamesRow.holds Tryz.pinned (OpenSpec.ofChange Rows.worldNamesSpec) :=
  OpenClaim.holds_of_wide 4 Tryz.f4 rfl rfl rfl rfl rfl rfl rfl ⟨rfl, rfl, rfl, rfl, rfl⟩ rfl rfl rfl rfl rfl (by kernel_rfl) Tryz.func4 closedFacts
    (of_decide_eq_true (by kernel_rfl)) (by unfold Func.isWrapper; first | (rw [if_pos (by decide +kernel)]; kernel_rfl) | (rw [if_neg (by decide +kernel)]; exact ⟨rfl, rfl⟩))
    (fun os started H enc _ => lifted os started H enc)
theorem card : Rows.WorldNamesCardSaid :=
  Claim7.holds_tied_plain_at .later [] [.data, .pinned] true (true, "bd8e25ba1dcbc163487bcfc43f87daf25c4535f1f927cfcf6edfd91f44c5d21e") true over (fun _ h => by cases h) cfWf (fun _ h => by cases h) worldNames_row_tie rfl ⟨rfl, rfl⟩ cfMain rfl
    (fun f fn hf hfn => by
      obtain rfl : f = 4 := Option.some.inj (cfNamed.symm.trans hf) |>.symm
      obtain rfl : fn = Tryz.f4 := (Option.some.inj (Tryz.func4.symm.trans hfn)).symm
      exact ⟨cfLooks, fun j t ht => by
        rw [Tryz.params4] at ht
        simp at ht⟩)
    cfGoes
end Go.Proofs.YtmcpegdmnogkbaaGreatDoor.worldNames
namespace Go.Proofs.YtmcpegdmnogkbaaGreatDoor
theorem worldNames_proved : Rows.WorldNamesCardSaid := worldNames.card
end Go.Proofs.YtmcpegdmnogkbaaGreatDoor
