/- ShadowNil returns true, whatever it is given. -/
import Derived.Test.YtgdkafimnpjghaaGreatDoorCards
import Derived.WalkKit
import Derived.ProofKit
import Derived.OpenShut
import Derived.LaidMore
import Derived.Lay
import Derived.SevenTiedAt
import Derived.Stop.Joined
import Derived.Test.YtgdkafimnpjghaaGreatDoorTie
import Derived.Test.YtgdkafimnpjghaaGreatDoorTnL
import Derived.Test.YtgdkafimnpjghaaGreatDoorTnE
import Derived.Test.YtgdkafimnpjghaaGreatDoorXsClosed
namespace Go.Proofs.YtgdkafimnpjghaaGreatDoor.shadowNil
open Go.ChangeShapes Go.WideShapes Go.ChangeAt Go.RowKit
theorem own : ownKnob Tryz.prog.godebug = none := by kernel_rfl
theorem walk (w : World) (x1 : Int) (x2 : Int) (x3b : Option Addr) (x3l x3c : Nat) : Calls Tryz.prog 8 #[.int .i64 x1, .int .i64 x2, .slice x3b x3l x3c] w fun e w' => e = .returned (.bool true) ∧ Below w.heap.size w w' :=
  Go.XS.run_below (Go.TS.TryzN.s8.calls [.int .i64 x1, .int .i64 x2, .slice x3b x3l x3c] w _ (show Go.TS.tallymanlaw11_ShadowNil Go.TS.TryzN.tau x1 x2 ⟨x3b, x3l, x3c⟩ w.heap (fun b h => Value.bool b = .bool true ∧ ∀ B, B < w.heap.size → h[B]? = w.heap[B]?) from Go.TS.nil_ct (fun J hJ h' hs he => hJ h' ⟨hs, fun b hb _ => he b hb⟩) (fun h' E => ⟨rfl, fun B hB => E.same B hB id⟩)))
theorem reads : ∀ t, t ∈ Tryz.f8.params.toList → Tryz.prog.readableRec t = true ∧ t < Tryz.prog.types.size := by
  intro t ht
  rw [Tryz.params8] at ht
  simp only [List.mem_cons, List.not_mem_nil, or_false] at ht
  rcases ht with rfl | rfl | rfl
  · exact ⟨by kernel_rfl, of_decide_eq_true (by kernel_rfl)⟩
  · exact ⟨by kernel_rfl, of_decide_eq_true (by kernel_rfl)⟩
  · exact ⟨by kernel_rfl, of_decide_eq_true (by kernel_rfl)⟩
set_option maxRecDepth 100000 in
theorem lifted (os : Os) (started : os.Started) (H : Type) (enc : TypeId × Value → H) :
    ReturnsInHanded {} Tryz.checked os 8 .any (fun w args => (Rows.shadowNilSpec.pre enc Tryz.prog Tryz.f8 Rows.shadowNilRow.domain false w args ∧ laidMetH Tryz.prog Rows.shadowNilRow.laid w) ∧ sizedMet enc Tryz.prog Tryz.f8 (OpenSpec.ofChange Rows.shadowNilSpec) false w args)
      (Rows.shadowNilSpec.post enc Tryz.prog Tryz.f8 false true false false) := by
  refine returnsInHanded_of_change_and (C := Tryz.checked) (X := fun w _ => laidMetH Tryz.prog Rows.shadowNilRow.laid w) (fun _ _ _ hh h => h.of_heap hh) own started (by kernel_rfl) Tryz.func8
    (ChangeSpec.witness_shaped (enc := enc) (C := Tryz.checked) (os := os) (X := fun w _ => laidMetH Tryz.prog Rows.shadowNilRow.laid w) false (World.laidAll Tryz.prog os Rows.shadowNilRow.laid) #[.int .i64 0, .int .i64 0, .slice none 0 0] 8 (World.laidAll_os _ _ _)
      (World.shaped_of_ZipB (by kernel_rfl) (by kernel_rfl)) (by kernel_rfl) (by kernel_rfl) (by kernel_rfl)
      (by rw [MakeChecks.laidMetH_plain _ _ _ (by kernel_rfl)]; exact laidMet_laidAll _ (by kernel_rfl) (by kernel_rfl))) ?_
  intro W base args ds gs before hval0 hW hcnd _ hL _
  have hval : ∀ (j : Nat) t v, Tryz.f8.params[j]? = some t → args[j]? = some v → Value.okWide Tryz.prog W .any base t v := hval0
  have hW' := hW
  obtain ⟨p, q, hA0, hV, rfl, hfz, hnd⟩ := hW
  have hA : DataW.TrodAll enc Tryz.prog W 0 (fun _ => true) true Tryz.f8.params.toList args.toList ds p := hA0
  rw [Tryz.params8] at hA hval
  obtain ⟨rfl, rfl⟩ := trodVars_none hV
  obtain ⟨v1, vs1, d1, ds1, p1, q1, e1, rfl, rfl, t1, hA⟩ := trodAll_cons hA
  obtain ⟨v2, vs2, d2, ds2, p2, q2, rfl, rfl, rfl, t2, hA⟩ := trodAll_cons hA
  obtain ⟨v3, vs3, d3, ds3, p3, q3, rfl, rfl, rfl, t3, hA⟩ := trodAll_cons hA
  obtain ⟨rfl, rfl, rfl⟩ := trodAll_nil hA
  obtain rfl : args = #[v1, v2, v3] := Array.toList_inj.1 e1
  obtain ⟨x1, rfl, rfl, rfl, wx1⟩ := open_int Tryz.underlying3 (hval 0 3 _ rfl rfl) t1
  obtain ⟨x2, rfl, rfl, rfl, wx2⟩ := open_int Tryz.underlying3 (hval 1 3 _ rfl rfl) t2
  obtain ⟨x3b, x3l, x3c, rfl⟩ := okWide_slice Tryz.underlying40 (hval 2 40 _ rfl rfl)
  clear hA0 hval0
  simp only [List.append_nil] at hW'
  refine (walk W x1 x2 x3b x3l x3c).mono fun e W' ⟨he, hb⟩ => ?_
  subst he
  exact ⟨_, rfl, Go.XS.post_args (by kernel_rfl) reads rfl hW' hb rfl (fun _ _ _ => (trodAll_cons_mk (shut_bool Tryz.underlying4 _) trodAll_mk0)) (ok_one (by kernel_rfl) rfl (okWide_bool_mk Tryz.underlying4 _)) (fun _ => rfl)⟩
theorem over : Rows.shadowNilRow.holds Tryz.pinned (OpenSpec.ofChange Rows.shadowNilSpec) :=
  OpenClaim.holds_of_wide 8 Tryz.f8 rfl rfl rfl rfl rfl rfl rfl ⟨rfl, rfl, rfl, rfl, rfl⟩ rfl rfl rfl rfl rfl (by kernel_rfl) Tryz.func8 (by kernel_rfl)
    (of_decide_eq_true (by kernel_rfl)) (by unfold Func.isWrapper; first | (rw [if_pos (by decide +kernel)]; kernel_rfl) | (rw [if_neg (by decide +kernel)]; exact ⟨rfl, rfl⟩))
    (fun os started H enc _ => lifted os started H enc)
theorem card : Rows.ShadowNilCardSaid :=
  Claim7.holds_tied_plain_at .later [] [.data, .pinned] true (true, "18ba16e29fd1fd11e836014b15981e761c0529e013476e42fc574b9111c26951") false over (fun _ h => by cases h) (by kernel_rfl) (fun _ h => by cases h) shadowNil_row_tie rfl ⟨rfl, rfl⟩ (by kernel_rfl) rfl
    (fun f fn hf hfn => by
      obtain rfl : f = 8 := Option.some.inj ((show Tryz.prog.funcNamed "tallyman/tallymanlaw11.ShadowNil" = some 8 by kernel_rfl).symm.trans hf) |>.symm
      obtain rfl : fn = Tryz.f8 := (Option.some.inj (Tryz.func8.symm.trans hfn)).symm
      exact ⟨by kernel_rfl, fun j t ht => by
        rw [Tryz.params8] at ht
        have hm : t ∈ [3, 3, 40] := by simpa using Array.mem_of_getElem? ht
        have hall : ([3, 3, 40].all fun u => !Tryz.prog.wantsStandIn u) = true := by kernel_rfl
        exact (show Tryz.prog.wantsStandIn t = false by simpa using List.all_eq_true.1 hall t hm)⟩)
    (by kernel_rfl)
end Go.Proofs.YtgdkafimnpjghaaGreatDoor.shadowNil
namespace Go.Proofs.YtgdkafimnpjghaaGreatDoor
theorem shadowNil_proved : Rows.ShadowNilCardSaid := shadowNil.card
end Go.Proofs.YtgdkafimnpjghaaGreatDoor
