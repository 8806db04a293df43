/-
  NARROWER THAN 'FOR EVERY INPUT', by the rows' own cells (each row's printed sentence says how): ShadowSplits: laid · ShadowNames: laid · ShadowHolds: laid · ShadowTells: laid · ShadowSafe: laid · ShadowNil: laid · ShadowScript: laid.
  DERIVED. THE GIVEN ROWS OF THIS SEAT. 7 by the template 'for every input the law returns true; each argument reads behind the call as it read before'; 0 by the template 'total and deterministic' (their statements: YtgdkafimnpjghaaGreatDoorTotals.lean).
  GIVEN WITH THE SEED: the statements are not yours to turn. If you find one false, say at which input.
  Laid BY PROGRAM, IN A SANDBOX (cutbox-rows.mjs): the forced cells as the released guide's own fill.sh prints them over the translation 3d10e3c57da22708… (all of the seat's roots in one cut). By AI agents, Wed Nov 11 2026. No macro, syntax, notation, axiom, sorry.
-/
import Derived.Test.YtgdkafimnpjghaaGreatDoorChecked
import GoSem.PinnedTables
import GoSem.Claim
import GoSem.ClaimJoined
import GoSem.ClaimMapViews
import Derived.JoinedTies
import Derived.KernelRfl
namespace Go.Proofs.YtgdkafimnpjghaaGreatDoor
/- THE CELL 'sum', in the pinned program and in every row, IS THE sha256 OF THE DUMP (.gsa) THAT YtgdkafimnpjghaaGreatDoorProg.lean LOADS. Nothing in Lean hashes anything: it is a label: what it is worth is what the hold of that sum in a sandbox is worth. -/
noncomputable def Tryz.pinned : Pinned := { name := "ytgdkafimnpjghaagreatdoor", sum := "3d10e3c57da227083a24daf6c3e9d15def374ce7a3cae60115e998f13622168d", checked := Tryz.checked }
namespace Rows
def none {H : Type} : Left H := { results := [], args := [] }

/- WHAT THE LISTED PACKAGE-LEVEL VARIABLES READ AS WHEN THE CALL BEGINS. Each datum BY PROGRAM (the guide's laid-datum.mjs) off the statement by which the dump's own 'gosem.cut.vars' lays the variable. In a bare row this is a premise. The card (YtgdkafimnpjghaaGreatDoorCards.lean) ties it to the program's text. -/
def laid_unicode_utf8_acceptRanges {H : Type} : DataW H := .agg [.agg [.lit (.int .u8 128), .lit (.int .u8 191)], .agg [.lit (.int .u8 160), .lit (.int .u8 191)], .agg [.lit (.int .u8 128), .lit (.int .u8 159)], .agg [.lit (.int .u8 144), .lit (.int .u8 191)], .agg [.lit (.int .u8 128), .lit (.int .u8 143)], .agg [.lit (.int .u8 0), .lit (.int .u8 0)], .agg [.lit (.int .u8 0), .lit (.int .u8 0)], .agg [.lit (.int .u8 0), .lit (.int .u8 0)], .agg [.lit (.int .u8 0), .lit (.int .u8 0)], .agg [.lit (.int .u8 0), .lit (.int .u8 0)], .agg [.lit (.int .u8 0), .lit (.int .u8 0)], .agg [.lit (.int .u8 0), .lit (.int .u8 0)], .agg [.lit (.int .u8 0), .lit (.int .u8 0)], .agg [.lit (.int .u8 0), .lit (.int .u8 0)], .agg [.lit (.int .u8 0), .lit (.int .u8 0)], .agg [.lit (.int .u8 0), .lit (.int .u8 0)]]
/-- One of Go's own tables, pinned by name: the form's constant. -/
def laid_unicode_utf8_first : DataW Unit := Go.Pinned.utf8First

/-- 'tallymanlaw11.ShadowSplits': WHATEVER THE INPUT: true; the input reads as it did. -/
def shadowSplitsSpec : ChangeSpec := { name := "shadowSplits", fn := fun _ => fun
  | [d1, d2] => { results := [.lit (.bool true)], args := [d1, d2] }
  | _ => none }
def shadowSplitsRow : OpenClaim := { program := "ytgdkafimnpjghaagreatdoor", sum := "3d10e3c57da227083a24daf6c3e9d15def374ce7a3cae60115e998f13622168d", func := "tallyman/tallymanlaw11.ShadowSplits", spec := "shadowSplits", inPlace := ["slices.overlaps[int]"], unfollowed := true, recurses := true, named := ["unicode/utf8.first", "unicode/utf8.acceptRanges"], apart := false, laid := [("unicode/utf8.acceptRanges", laid_unicode_utf8_acceptRanges), ("unicode/utf8.first", laid_unicode_utf8_first)] }
def ShadowSplitsSaid : Prop := shadowSplitsRow.holds Tryz.pinned (OpenSpec.ofChange shadowSplitsSpec)

/-- ITS FALSE NEIGHBOUR: 'it returns false'. Refute it at one input. -/
def shadowSplitsWrong : ChangeSpec := { name := "shadowSplits", fn := fun _ => fun
  | [d1, d2] => { results := [.lit (.bool false)], args := [d1, d2] }
  | _ => none }
def ShadowSplitsWrongFalsely : Prop := shadowSplitsRow.holds Tryz.pinned (OpenSpec.ofChange shadowSplitsWrong)

/-- 'tallymanlaw11.ShadowNames': WHATEVER THE INPUT: true; the input reads as it did. -/
def shadowNamesSpec : ChangeSpec := { name := "shadowNames", fn := fun _ => fun
  | [] => { results := [.lit (.bool true)], args := [] }
  | _ => none }
def shadowNamesRow : OpenClaim := { program := "ytgdkafimnpjghaagreatdoor", sum := "3d10e3c57da227083a24daf6c3e9d15def374ce7a3cae60115e998f13622168d", func := "tallyman/tallymanlaw11.ShadowNames", spec := "shadowNames", inPlace := ["slices.overlaps[int]"], unfollowed := true, recurses := true, named := ["unicode/utf8.first", "unicode/utf8.acceptRanges"], apart := false, laid := [("unicode/utf8.acceptRanges", laid_unicode_utf8_acceptRanges), ("unicode/utf8.first", laid_unicode_utf8_first)] }
def ShadowNamesSaid : Prop := shadowNamesRow.holds Tryz.pinned (OpenSpec.ofChange shadowNamesSpec)

/-- ITS FALSE NEIGHBOUR: 'it returns false'. Refute it at one input. -/
def shadowNamesWrong : ChangeSpec := { name := "shadowNames", fn := fun _ => fun
  | [] => { results := [.lit (.bool false)], args := [] }
  | _ => none }
def ShadowNamesWrongFalsely : Prop := shadowNamesRow.holds Tryz.pinned (OpenSpec.ofChange shadowNamesWrong)

/-- 'tallymanlaw11.ShadowHolds': WHATEVER THE INPUT: true; the input reads as it did. -/
def shadowHoldsSpec : ChangeSpec := { name := "shadowHolds", fn := fun _ => fun
  | [d1, d2] => { results := [.lit (.bool true)], args := [d1, d2] }
  | _ => none }
def shadowHoldsRow : OpenClaim := { program := "ytgdkafimnpjghaagreatdoor", sum := "3d10e3c57da227083a24daf6c3e9d15def374ce7a3cae60115e998f13622168d", func := "tallyman/tallymanlaw11.ShadowHolds", spec := "shadowHolds", inPlace := ["slices.overlaps[int]"], unfollowed := true, recurses := true, named := ["unicode/utf8.first", "unicode/utf8.acceptRanges"], apart := false, laid := [("unicode/utf8.acceptRanges", laid_unicode_utf8_acceptRanges), ("unicode/utf8.first", laid_unicode_utf8_first)] }
def ShadowHoldsSaid : Prop := shadowHoldsRow.holds Tryz.pinned (OpenSpec.ofChange shadowHoldsSpec)

/-- ITS FALSE NEIGHBOUR: 'it returns false'. Refute it at one input. -/
def shadowHoldsWrong : ChangeSpec := { name := "shadowHolds", fn := fun _ => fun
  | [d1, d2] => { results := [.lit (.bool false)], args := [d1, d2] }
  | _ => none }
def ShadowHoldsWrongFalsely : Prop := shadowHoldsRow.holds Tryz.pinned (OpenSpec.ofChange shadowHoldsWrong)

/-- 'tallymanlaw11.ShadowTells': WHATEVER THE INPUT: true; the input reads as it did. -/
def shadowTellsSpec : ChangeSpec := { name := "shadowTells", fn := fun _ => fun
  | [d1, d2] => { results := [.lit (.bool true)], args := [d1, d2] }
  | _ => none }
def shadowTellsRow : OpenClaim := { program := "ytgdkafimnpjghaagreatdoor", sum := "3d10e3c57da227083a24daf6c3e9d15def374ce7a3cae60115e998f13622168d", func := "tallyman/tallymanlaw11.ShadowTells", spec := "shadowTells", inPlace := ["slices.overlaps[int]"], unfollowed := true, recurses := true, named := ["unicode/utf8.first", "unicode/utf8.acceptRanges"], apart := false, laid := [("unicode/utf8.acceptRanges", laid_unicode_utf8_acceptRanges), ("unicode/utf8.first", laid_unicode_utf8_first)] }
def ShadowTellsSaid : Prop := shadowTellsRow.holds Tryz.pinned (OpenSpec.ofChange shadowTellsSpec)

/-- ITS FALSE NEIGHBOUR: 'it returns false'. Refute it at one input. -/
def shadowTellsWrong : ChangeSpec := { name := "shadowTells", fn := fun _ => fun
  | [d1, d2] => { results := [.lit (.bool false)], args := [d1, d2] }
  | _ => none }
def ShadowTellsWrongFalsely : Prop := shadowTellsRow.holds Tryz.pinned (OpenSpec.ofChange shadowTellsWrong)

/-- 'tallymanlaw11.ShadowSafe': WHATEVER THE INPUT: true; the input reads as it did. -/
def shadowSafeSpec : ChangeSpec := { name := "shadowSafe", fn := fun _ => fun
  | [d1, d2, d3] => { results := [.lit (.bool true)], args := [d1, d2, d3] }
  | _ => none }
def shadowSafeRow : OpenClaim := { program := "ytgdkafimnpjghaagreatdoor", sum := "3d10e3c57da227083a24daf6c3e9d15def374ce7a3cae60115e998f13622168d", func := "tallyman/tallymanlaw11.ShadowSafe", spec := "shadowSafe", inPlace := ["slices.overlaps[int]"], unfollowed := true, recurses := true, named := ["unicode/utf8.first", "unicode/utf8.acceptRanges"], apart := false, laid := [("unicode/utf8.acceptRanges", laid_unicode_utf8_acceptRanges), ("unicode/utf8.first", laid_unicode_utf8_first)] }
def ShadowSafeSaid : Prop := shadowSafeRow.holds Tryz.pinned (OpenSpec.ofChange shadowSafeSpec)

/-- ITS FALSE NEIGHBOUR: 'it returns false'. Refute it at one input. -/
def shadowSafeWrong : ChangeSpec := { name := "shadowSafe", fn := fun _ => fun
  | [d1, d2, d3] => { results := [.lit (.bool false)], args := [d1, d2, d3] }
  | _ => none }
def ShadowSafeWrongFalsely : Prop := shadowSafeRow.holds Tryz.pinned (OpenSpec.ofChange shadowSafeWrong)

/-- 'tallymanlaw11.ShadowNil': WHATEVER THE INPUT: true; the input reads as it did. -/
def shadowNilSpec : ChangeSpec := { name := "shadowNil", fn := fun _ => fun
  | [d1, d2, d3] => { results := [.lit (.bool true)], args := [d1, d2, d3] }
  | _ => none }
def shadowNilRow : OpenClaim := { program := "ytgdkafimnpjghaagreatdoor", sum := "3d10e3c57da227083a24daf6c3e9d15def374ce7a3cae60115e998f13622168d", func := "tallyman/tallymanlaw11.ShadowNil", spec := "shadowNil", inPlace := ["slices.overlaps[int]"], unfollowed := true, recurses := true, named := ["unicode/utf8.first", "unicode/utf8.acceptRanges"], apart := false, laid := [("unicode/utf8.acceptRanges", laid_unicode_utf8_acceptRanges), ("unicode/utf8.first", laid_unicode_utf8_first)] }
def ShadowNilSaid : Prop := shadowNilRow.holds Tryz.pinned (OpenSpec.ofChange shadowNilSpec)

/-- ITS FALSE NEIGHBOUR: 'it returns false'. Refute it at one input. -/
def shadowNilWrong : ChangeSpec := { name := "shadowNil", fn := fun _ => fun
  | [d1, d2, d3] => { results := [.lit (.bool false)], args := [d1, d2, d3] }
  | _ => none }
def ShadowNilWrongFalsely : Prop := shadowNilRow.holds Tryz.pinned (OpenSpec.ofChange shadowNilWrong)

/-- 'tallymanlaw11.ShadowScript': WHATEVER THE INPUT: true; the input reads as it did. -/
def shadowScriptSpec : ChangeSpec := { name := "shadowScript", fn := fun _ => fun
  | [d1, d2, d3] => { results := [.lit (.bool true)], args := [d1, d2, d3] }
  | _ => none }
def shadowScriptRow : OpenClaim := { program := "ytgdkafimnpjghaagreatdoor", sum := "3d10e3c57da227083a24daf6c3e9d15def374ce7a3cae60115e998f13622168d", func := "tallyman/tallymanlaw11.ShadowScript", spec := "shadowScript", inPlace := ["slices.overlaps[int]"], unfollowed := true, recurses := true, named := ["unicode/utf8.first", "unicode/utf8.acceptRanges"], apart := false, laid := [("unicode/utf8.acceptRanges", laid_unicode_utf8_acceptRanges), ("unicode/utf8.first", laid_unicode_utf8_first)] }
def ShadowScriptSaid : Prop := shadowScriptRow.holds Tryz.pinned (OpenSpec.ofChange shadowScriptSpec)

/-- ITS FALSE NEIGHBOUR: 'it returns false'. Refute it at one input. -/
def shadowScriptWrong : ChangeSpec := { name := "shadowScript", fn := fun _ => fun
  | [d1, d2, d3] => { results := [.lit (.bool false)], args := [d1, d2, d3] }
  | _ => none }
def ShadowScriptWrongFalsely : Prop := shadowScriptRow.holds Tryz.pinned (OpenSpec.ofChange shadowScriptWrong)

/- THE SECOND FORM. 'bulk': how many values and letters a reading holds, each counted each time it is reached (what is shared counts as often as it is met; a slice's spare places count too). A statement '..UptoSaid' is the law's where the arguments, and the package variables that the reading takes, are together of bulk at most 1048576: NARROWER than '..Said'. Prove '..Said' where nothing that the law and all that it calls make is longer than what came in: it says more and counts as full. Else prove '..UptoSaid'. A law counts once. -/
mutual
def uptoBulk {H : Type} : DataW H → Nat
  | .lit (.string bytes) => bytes.length + 1
  | .lit _ => 1
  | .nil => 1
  | .ptr d => uptoBulk d + 1
  | .slice elems spare => uptoBulkAll elems + uptoBulkAll spare + 1
  | .agg parts => uptoBulkAll parts + 1
  | .iface _ d => uptoBulk d + 1
  | .map entries => uptoBulkEntries entries + 1
  | .held _ => 1
def uptoBulkAll {H : Type} : List (DataW H) → Nat
  | [] => 0
  | d :: r => uptoBulk d + uptoBulkAll r
def uptoBulkEntries {H : Type} : List (Lit × DataW H) → Nat
  | [] => 0
  | x :: r => uptoBulkEntry x + uptoBulkEntries r
def uptoBulkEntry {H : Type} : Lit × DataW H → Nat
  | (.string bytes, d) => bytes.length + uptoBulk d + 1
  | (_, d) => uptoBulk d + 1
 end
def uptoSmall : (H : Type) → List (DataW H) → Bool := fun _ ds => decide (uptoBulkAll ds ≤ 1048576)
def OpenSpec.upto (s : _root_.Go.ChangeSpec) : _root_.Go.OpenSpec := { _root_.Go.OpenSpec.ofChange s with cond := some uptoSmall }

/-- 'tallymanlaw11.ShadowSplits', WHERE WHAT IT READS IS OF BULK AT MOST 1048576: true; the input reads as it did. -/
def shadowSplitsUptoRow : OpenClaim := { program := "ytgdkafimnpjghaagreatdoor", sum := "3d10e3c57da227083a24daf6c3e9d15def374ce7a3cae60115e998f13622168d", func := "tallyman/tallymanlaw11.ShadowSplits", spec := "shadowSplits", inPlace := ["slices.overlaps[int]"], unfollowed := true, recurses := true, named := ["unicode/utf8.first", "unicode/utf8.acceptRanges"], apart := false, laid := [("unicode/utf8.acceptRanges", laid_unicode_utf8_acceptRanges), ("unicode/utf8.first", laid_unicode_utf8_first)], narrowed := true }
def ShadowSplitsUptoSaid : Prop := shadowSplitsUptoRow.holds Tryz.pinned (OpenSpec.upto shadowSplitsSpec)

/-- 'tallymanlaw11.ShadowNames', WHERE WHAT IT READS IS OF BULK AT MOST 1048576: true; the input reads as it did. -/
def shadowNamesUptoRow : OpenClaim := { program := "ytgdkafimnpjghaagreatdoor", sum := "3d10e3c57da227083a24daf6c3e9d15def374ce7a3cae60115e998f13622168d", func := "tallyman/tallymanlaw11.ShadowNames", spec := "shadowNames", inPlace := ["slices.overlaps[int]"], unfollowed := true, recurses := true, named := ["unicode/utf8.first", "unicode/utf8.acceptRanges"], apart := false, laid := [("unicode/utf8.acceptRanges", laid_unicode_utf8_acceptRanges), ("unicode/utf8.first", laid_unicode_utf8_first)], narrowed := true }
def ShadowNamesUptoSaid : Prop := shadowNamesUptoRow.holds Tryz.pinned (OpenSpec.upto shadowNamesSpec)

/-- 'tallymanlaw11.ShadowHolds', WHERE WHAT IT READS IS OF BULK AT MOST 1048576: true; the input reads as it did. -/
def shadowHoldsUptoRow : OpenClaim := { program := "ytgdkafimnpjghaagreatdoor", sum := "3d10e3c57da227083a24daf6c3e9d15def374ce7a3cae60115e998f13622168d", func := "tallyman/tallymanlaw11.ShadowHolds", spec := "shadowHolds", inPlace := ["slices.overlaps[int]"], unfollowed := true, recurses := true, named := ["unicode/utf8.first", "unicode/utf8.acceptRanges"], apart := false, laid := [("unicode/utf8.acceptRanges", laid_unicode_utf8_acceptRanges), ("unicode/utf8.first", laid_unicode_utf8_first)], narrowed := true }
def ShadowHoldsUptoSaid : Prop := shadowHoldsUptoRow.holds Tryz.pinned (OpenSpec.upto shadowHoldsSpec)

/-- 'tallymanlaw11.ShadowTells', WHERE WHAT IT READS IS OF BULK AT MOST 1048576: true; the input reads as it did. -/
def shadowTellsUptoRow : OpenClaim := { program := "ytgdkafimnpjghaagreatdoor", sum := "3d10e3c57da227083a24daf6c3e9d15def374ce7a3cae60115e998f13622168d", func := "tallyman/tallymanlaw11.ShadowTells", spec := "shadowTells", inPlace := ["slices.overlaps[int]"], unfollowed := true, recurses := true, named := ["unicode/utf8.first", "unicode/utf8.acceptRanges"], apart := false, laid := [("unicode/utf8.acceptRanges", laid_unicode_utf8_acceptRanges), ("unicode/utf8.first", laid_unicode_utf8_first)], narrowed := true }
def ShadowTellsUptoSaid : Prop := shadowTellsUptoRow.holds Tryz.pinned (OpenSpec.upto shadowTellsSpec)

/-- 'tallymanlaw11.ShadowSafe', WHERE WHAT IT READS IS OF BULK AT MOST 1048576: true; the input reads as it did. -/
def shadowSafeUptoRow : OpenClaim := { program := "ytgdkafimnpjghaagreatdoor", sum := "3d10e3c57da227083a24daf6c3e9d15def374ce7a3cae60115e998f13622168d", func := "tallyman/tallymanlaw11.ShadowSafe", spec := "shadowSafe", inPlace := ["slices.overlaps[int]"], unfollowed := true, recurses := true, named := ["unicode/utf8.first", "unicode/utf8.acceptRanges"], apart := false, laid := [("unicode/utf8.acceptRanges", laid_unicode_utf8_acceptRanges), ("unicode/utf8.first", laid_unicode_utf8_first)], narrowed := true }
def ShadowSafeUptoSaid : Prop := shadowSafeUptoRow.holds Tryz.pinned (OpenSpec.upto shadowSafeSpec)

/-- 'tallymanlaw11.ShadowNil', WHERE WHAT IT READS IS OF BULK AT MOST 1048576: true; the input reads as it did. -/
def shadowNilUptoRow : OpenClaim := { program := "ytgdkafimnpjghaagreatdoor", sum := "3d10e3c57da227083a24daf6c3e9d15def374ce7a3cae60115e998f13622168d", func := "tallyman/tallymanlaw11.ShadowNil", spec := "shadowNil", inPlace := ["slices.overlaps[int]"], unfollowed := true, recurses := true, named := ["unicode/utf8.first", "unicode/utf8.acceptRanges"], apart := false, laid := [("unicode/utf8.acceptRanges", laid_unicode_utf8_acceptRanges), ("unicode/utf8.first", laid_unicode_utf8_first)], narrowed := true }
def ShadowNilUptoSaid : Prop := shadowNilUptoRow.holds Tryz.pinned (OpenSpec.upto shadowNilSpec)

/-- 'tallymanlaw11.ShadowScript', WHERE WHAT IT READS IS OF BULK AT MOST 1048576: true; the input reads as it did. -/
def shadowScriptUptoRow : OpenClaim := { program := "ytgdkafimnpjghaagreatdoor", sum := "3d10e3c57da227083a24daf6c3e9d15def374ce7a3cae60115e998f13622168d", func := "tallyman/tallymanlaw11.ShadowScript", spec := "shadowScript", inPlace := ["slices.overlaps[int]"], unfollowed := true, recurses := true, named := ["unicode/utf8.first", "unicode/utf8.acceptRanges"], apart := false, laid := [("unicode/utf8.acceptRanges", laid_unicode_utf8_acceptRanges), ("unicode/utf8.first", laid_unicode_utf8_first)], narrowed := true }
def ShadowScriptUptoSaid : Prop := shadowScriptUptoRow.holds Tryz.pinned (OpenSpec.upto shadowScriptSpec)

end Rows
end Go.Proofs.YtgdkafimnpjghaaGreatDoor
