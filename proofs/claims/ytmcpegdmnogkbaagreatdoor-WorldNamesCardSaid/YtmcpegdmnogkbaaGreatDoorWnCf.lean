/- WorldNames: the closed facts of the card, one by one. -/
import Derived.Test.YtmcpegdmnogkbaaGreatDoorCards
import Derived.Test.YtmcpegdmnogkbaaGreatDoorTie
import Derived.WalkKit
import Derived.ProofKit
import Derived.OpenShut
import Derived.LaidMore
import Derived.Lay
import Derived.SevenTiedAt
import Derived.Stop.Joined
set_option linter.unusedSimpArgs false
set_option linter.unusedVariables false
namespace Go.Proofs.YtmcpegdmnogkbaaGreatDoor.worldNames
open Go.ChangeShapes Go.WideShapes Go.ChangeAt Go.RowKit
theorem cfWf : Rows.worldNamesRow.wfByText (OpenSpec.ofChange Rows.worldNamesSpec) = true := by kernel_rfl
theorem cfMain : Tryz.pinned.checked.prog.mainIs = some (true, "bd8e25ba1dcbc163487bcfc43f87daf25c4535f1f927cfcf6edfd91f44c5d21e".toList) := by kernel_rfl
theorem cfNamed : Tryz.prog.funcNamed "tallyman/tallymanlaw29.WorldNames" = some 4 := by kernel_rfl
theorem cfLooks : true = Tryz.pinned.checked.prog.looks [] := by kernel_rfl
theorem goes_none {P : Program} {c : OpenClaim} (h : P.funcs.any Func.goes = false) (hs : c.start = .entering) : false = c.goesBy P := by
  have h1 : ∀ f, P.goes f = false := by
    intro f
    unfold Program.goes
    rw [h, Bool.and_false, Bool.or_false, Bool.eq_false_iff]
    intro hc
    obtain ⟨g, -, hg⟩ := List.any_eq_true.mp hc
    cases hf : P.funcs[g]? with
    | none => rw [hf] at hg; cases hg
    | some fn =>
      rw [hf] at hg
      have : P.funcs.any Func.goes = true := Array.any_eq_true'.mpr ⟨fn, Array.mem_of_getElem? hf, hg⟩
      rw [h] at this; cases this
  unfold OpenClaim.goesBy Program.goesAt Program.goesFrom
  rw [hs]
  cases P.funcNamed c.func with
  | none => rfl
  | some f => show false = (P.goes f || false); rw [h1]; rfl
theorem noneGoes : Tryz.pinned.checked.prog.funcs.any Func.goes = false := by kernel_rfl
theorem cfGoes : false = Rows.worldNamesRow.goesBy Tryz.pinned.checked.prog := goes_none noneGoes rfl
end Go.Proofs.YtmcpegdmnogkbaaGreatDoor.worldNames
