/-
  No cell of these rows narrows 'for every input' (looked for: loops, veiled, ifaces, maps, wideKeys, modest, calm, conditions, laid).
  DERIVED. THE GIVEN ROWS OF THIS SEAT. 10 by the template 'for every input the law returns true; each argument reads behind the call as it read before'; 0 by the template 'total and deterministic' (their statements: YteigcfcabmoghaaTotals.lean).
  GIVEN WITH THE SEED: the statements are not yours to turn. If you find one false, say at which input.
  Laid BY PROGRAM, IN A SANDBOX (cutbox-rows.mjs): the forced cells as the released guide's own fill.sh prints them over the translation c98812ce193671be… (all of the seat's roots in one cut). By AI agents, Wed Nov 11 2026. No macro, syntax, notation, axiom, sorry.
-/
import Derived.Test.YteigcfcabmoghaaChecked
import GoSem.Claim
import GoSem.ClaimJoined
import GoSem.ClaimMapViews
import Derived.JoinedTies
import Derived.KernelRfl
namespace Go.Proofs.Yteigcfcabmoghaa
/- THE CELL 'sum', in the pinned program and in every row, IS THE sha256 OF THE DUMP (.gsa) THAT YteigcfcabmoghaaProg.lean LOADS. Nothing in Lean hashes anything: it is a label: what it is worth is what the hold of that sum in a sandbox is worth. -/
noncomputable def Try.pinned : Pinned := { name := "yteigcfcabmoghaa", sum := "c98812ce193671be15953ee0c3e92b1f4403a9141c3e1526e23df7c8f20ed223", checked := Try.checked }
namespace Rows
def none {H : Type} : Left H := { results := [], args := [] }

/-- 'laws.FnExactDayOk': WHATEVER THE INPUT: true; the input reads as it did. -/
def fnExactDayOkSpec : ChangeSpec := { name := "fnExactDayOk", fn := fun _ => fun
  | [d1, d2] => { results := [.lit (.bool true)], args := [d1, d2] }
  | _ => none }
def fnExactDayOkRow : OpenClaim := { program := "yteigcfcabmoghaa", sum := "c98812ce193671be15953ee0c3e92b1f4403a9141c3e1526e23df7c8f20ed223", func := "loop.example/g03205/laws.FnExactDayOk", spec := "fnExactDayOk", unfollowed := true, recurses := true, apart := false }
def FnExactDayOkSaid : Prop := fnExactDayOkRow.holds Try.pinned (OpenSpec.ofChange fnExactDayOkSpec)

/-- ITS FALSE NEIGHBOUR: 'it returns false'. Refute it at one input. -/
def fnExactDayOkWrong : ChangeSpec := { name := "fnExactDayOk", fn := fun _ => fun
  | [d1, d2] => { results := [.lit (.bool false)], args := [d1, d2] }
  | _ => none }
def FnExactDayOkWrongFalsely : Prop := fnExactDayOkRow.holds Try.pinned (OpenSpec.ofChange fnExactDayOkWrong)

/-- 'laws.FnExactAfterDay': WHATEVER THE INPUT: true; the input reads as it did. -/
def fnExactAfterDaySpec : ChangeSpec := { name := "fnExactAfterDay", fn := fun _ => fun
  | [d1, d2, d3] => { results := [.lit (.bool true)], args := [d1, d2, d3] }
  | _ => none }
def fnExactAfterDayRow : OpenClaim := { program := "yteigcfcabmoghaa", sum := "c98812ce193671be15953ee0c3e92b1f4403a9141c3e1526e23df7c8f20ed223", func := "loop.example/g03205/laws.FnExactAfterDay", spec := "fnExactAfterDay", unfollowed := true, recurses := true, apart := false }
def FnExactAfterDaySaid : Prop := fnExactAfterDayRow.holds Try.pinned (OpenSpec.ofChange fnExactAfterDaySpec)

/-- ITS FALSE NEIGHBOUR: 'it returns false'. Refute it at one input. -/
def fnExactAfterDayWrong : ChangeSpec := { name := "fnExactAfterDay", fn := fun _ => fun
  | [d1, d2, d3] => { results := [.lit (.bool false)], args := [d1, d2, d3] }
  | _ => none }
def FnExactAfterDayWrongFalsely : Prop := fnExactAfterDayRow.holds Try.pinned (OpenSpec.ofChange fnExactAfterDayWrong)

/-- 'laws.FnExactCountEndings': WHATEVER THE INPUT: true; the input reads as it did. -/
def fnExactCountEndingsSpec : ChangeSpec := { name := "fnExactCountEndings", fn := fun _ => fun
  | [d1, d2] => { results := [.lit (.bool true)], args := [d1, d2] }
  | _ => none }
def fnExactCountEndingsRow : OpenClaim := { program := "yteigcfcabmoghaa", sum := "c98812ce193671be15953ee0c3e92b1f4403a9141c3e1526e23df7c8f20ed223", func := "loop.example/g03205/laws.FnExactCountEndings", spec := "fnExactCountEndings", unfollowed := true, recurses := true, apart := false }
def FnExactCountEndingsSaid : Prop := fnExactCountEndingsRow.holds Try.pinned (OpenSpec.ofChange fnExactCountEndingsSpec)

/-- ITS FALSE NEIGHBOUR: 'it returns false'. Refute it at one input. -/
def fnExactCountEndingsWrong : ChangeSpec := { name := "fnExactCountEndings", fn := fun _ => fun
  | [d1, d2] => { results := [.lit (.bool false)], args := [d1, d2] }
  | _ => none }
def FnExactCountEndingsWrongFalsely : Prop := fnExactCountEndingsRow.holds Try.pinned (OpenSpec.ofChange fnExactCountEndingsWrong)

/-- 'laws.FnExactCountFirst': WHATEVER THE INPUT: true; the input reads as it did. -/
def fnExactCountFirstSpec : ChangeSpec := { name := "fnExactCountFirst", fn := fun _ => fun
  | [d1, d2, d3] => { results := [.lit (.bool true)], args := [d1, d2, d3] }
  | _ => none }
def fnExactCountFirstRow : OpenClaim := { program := "yteigcfcabmoghaa", sum := "c98812ce193671be15953ee0c3e92b1f4403a9141c3e1526e23df7c8f20ed223", func := "loop.example/g03205/laws.FnExactCountFirst", spec := "fnExactCountFirst", unfollowed := true, recurses := true, apart := false }
def FnExactCountFirstSaid : Prop := fnExactCountFirstRow.holds Try.pinned (OpenSpec.ofChange fnExactCountFirstSpec)

/-- ITS FALSE NEIGHBOUR: 'it returns false'. Refute it at one input. -/
def fnExactCountFirstWrong : ChangeSpec := { name := "fnExactCountFirst", fn := fun _ => fun
  | [d1, d2, d3] => { results := [.lit (.bool false)], args := [d1, d2, d3] }
  | _ => none }
def FnExactCountFirstWrongFalsely : Prop := fnExactCountFirstRow.holds Try.pinned (OpenSpec.ofChange fnExactCountFirstWrong)

/-- 'laws.FnExactCountPlaces': WHATEVER THE INPUT: true; the input reads as it did. -/
def fnExactCountPlacesSpec : ChangeSpec := { name := "fnExactCountPlaces", fn := fun _ => fun
  | [d1, d2, d3] => { results := [.lit (.bool true)], args := [d1, d2, d3] }
  | _ => none }
def fnExactCountPlacesRow : OpenClaim := { program := "yteigcfcabmoghaa", sum := "c98812ce193671be15953ee0c3e92b1f4403a9141c3e1526e23df7c8f20ed223", func := "loop.example/g03205/laws.FnExactCountPlaces", spec := "fnExactCountPlaces", unfollowed := true, recurses := true, apart := false }
def FnExactCountPlacesSaid : Prop := fnExactCountPlacesRow.holds Try.pinned (OpenSpec.ofChange fnExactCountPlacesSpec)

/-- ITS FALSE NEIGHBOUR: 'it returns false'. Refute it at one input. -/
def fnExactCountPlacesWrong : ChangeSpec := { name := "fnExactCountPlaces", fn := fun _ => fun
  | [d1, d2, d3] => { results := [.lit (.bool false)], args := [d1, d2, d3] }
  | _ => none }
def FnExactCountPlacesWrongFalsely : Prop := fnExactCountPlacesRow.holds Try.pinned (OpenSpec.ofChange fnExactCountPlacesWrong)

/-- 'laws.FnExactCountAlone': WHATEVER THE INPUT: true; the input reads as it did. -/
def fnExactCountAloneSpec : ChangeSpec := { name := "fnExactCountAlone", fn := fun _ => fun
  | [d1, d2, d3] => { results := [.lit (.bool true)], args := [d1, d2, d3] }
  | _ => none }
def fnExactCountAloneRow : OpenClaim := { program := "yteigcfcabmoghaa", sum := "c98812ce193671be15953ee0c3e92b1f4403a9141c3e1526e23df7c8f20ed223", func := "loop.example/g03205/laws.FnExactCountAlone", spec := "fnExactCountAlone", unfollowed := true, recurses := true, apart := false }
def FnExactCountAloneSaid : Prop := fnExactCountAloneRow.holds Try.pinned (OpenSpec.ofChange fnExactCountAloneSpec)

/-- ITS FALSE NEIGHBOUR: 'it returns false'. Refute it at one input. -/
def fnExactCountAloneWrong : ChangeSpec := { name := "fnExactCountAlone", fn := fun _ => fun
  | [d1, d2, d3] => { results := [.lit (.bool false)], args := [d1, d2, d3] }
  | _ => none }
def FnExactCountAloneWrongFalsely : Prop := fnExactCountAloneRow.holds Try.pinned (OpenSpec.ofChange fnExactCountAloneWrong)

/-- 'laws.FnExactFirstEnding': WHATEVER THE INPUT: true; the input reads as it did. -/
def fnExactFirstEndingSpec : ChangeSpec := { name := "fnExactFirstEnding", fn := fun _ => fun
  | [d1, d2, d3] => { results := [.lit (.bool true)], args := [d1, d2, d3] }
  | _ => none }
def fnExactFirstEndingRow : OpenClaim := { program := "yteigcfcabmoghaa", sum := "c98812ce193671be15953ee0c3e92b1f4403a9141c3e1526e23df7c8f20ed223", func := "loop.example/g03205/laws.FnExactFirstEnding", spec := "fnExactFirstEnding", unfollowed := true, recurses := true, apart := false }
def FnExactFirstEndingSaid : Prop := fnExactFirstEndingRow.holds Try.pinned (OpenSpec.ofChange fnExactFirstEndingSpec)

/-- ITS FALSE NEIGHBOUR: 'it returns false'. Refute it at one input. -/
def fnExactFirstEndingWrong : ChangeSpec := { name := "fnExactFirstEnding", fn := fun _ => fun
  | [d1, d2, d3] => { results := [.lit (.bool false)], args := [d1, d2, d3] }
  | _ => none }
def FnExactFirstEndingWrongFalsely : Prop := fnExactFirstEndingRow.holds Try.pinned (OpenSpec.ofChange fnExactFirstEndingWrong)

/-- 'laws.FnExactNeedsWin': WHATEVER THE INPUT: true; the input reads as it did. -/
def fnExactNeedsWinSpec : ChangeSpec := { name := "fnExactNeedsWin", fn := fun _ => fun
  | [d1, d2, d3] => { results := [.lit (.bool true)], args := [d1, d2, d3] }
  | _ => none }
def fnExactNeedsWinRow : OpenClaim := { program := "yteigcfcabmoghaa", sum := "c98812ce193671be15953ee0c3e92b1f4403a9141c3e1526e23df7c8f20ed223", func := "loop.example/g03205/laws.FnExactNeedsWin", spec := "fnExactNeedsWin", unfollowed := true, recurses := true, apart := false }
def FnExactNeedsWinSaid : Prop := fnExactNeedsWinRow.holds Try.pinned (OpenSpec.ofChange fnExactNeedsWinSpec)

/-- ITS FALSE NEIGHBOUR: 'it returns false'. Refute it at one input. -/
def fnExactNeedsWinWrong : ChangeSpec := { name := "fnExactNeedsWin", fn := fun _ => fun
  | [d1, d2, d3] => { results := [.lit (.bool false)], args := [d1, d2, d3] }
  | _ => none }
def FnExactNeedsWinWrongFalsely : Prop := fnExactNeedsWinRow.holds Try.pinned (OpenSpec.ofChange fnExactNeedsWinWrong)

/-- 'laws.FnExactDecidedBy': WHATEVER THE INPUT: true; the input reads as it did. -/
def fnExactDecidedBySpec : ChangeSpec := { name := "fnExactDecidedBy", fn := fun _ => fun
  | [d1, d2] => { results := [.lit (.bool true)], args := [d1, d2] }
  | _ => none }
def fnExactDecidedByRow : OpenClaim := { program := "yteigcfcabmoghaa", sum := "c98812ce193671be15953ee0c3e92b1f4403a9141c3e1526e23df7c8f20ed223", func := "loop.example/g03205/laws.FnExactDecidedBy", spec := "fnExactDecidedBy", unfollowed := true, recurses := true, apart := false }
def FnExactDecidedBySaid : Prop := fnExactDecidedByRow.holds Try.pinned (OpenSpec.ofChange fnExactDecidedBySpec)

/-- ITS FALSE NEIGHBOUR: 'it returns false'. Refute it at one input. -/
def fnExactDecidedByWrong : ChangeSpec := { name := "fnExactDecidedBy", fn := fun _ => fun
  | [d1, d2] => { results := [.lit (.bool false)], args := [d1, d2] }
  | _ => none }
def FnExactDecidedByWrongFalsely : Prop := fnExactDecidedByRow.holds Try.pinned (OpenSpec.ofChange fnExactDecidedByWrong)

/-- 'laws.FnLastDays': WHATEVER THE INPUT: true; the input reads as it did. -/
def fnLastDaysSpec : ChangeSpec := { name := "fnLastDays", fn := fun _ => fun
  | [d] => { results := [.lit (.bool true)], args := [d] }
  | _ => none }
def fnLastDaysRow : OpenClaim := { program := "yteigcfcabmoghaa", sum := "c98812ce193671be15953ee0c3e92b1f4403a9141c3e1526e23df7c8f20ed223", func := "loop.example/g03205/laws.FnLastDays", spec := "fnLastDays", unfollowed := true, recurses := true, apart := false }
def FnLastDaysSaid : Prop := fnLastDaysRow.holds Try.pinned (OpenSpec.ofChange fnLastDaysSpec)

/-- ITS FALSE NEIGHBOUR: 'it returns false'. Refute it at one input. -/
def fnLastDaysWrong : ChangeSpec := { name := "fnLastDays", fn := fun _ => fun
  | [d] => { results := [.lit (.bool false)], args := [d] }
  | _ => none }
def FnLastDaysWrongFalsely : Prop := fnLastDaysRow.holds Try.pinned (OpenSpec.ofChange fnLastDaysWrong)

/- THE SECOND FORM. 'bulk': how many values and letters a reading holds, each counted each time it is reached (what is shared counts as often as it is met; a slice's spare places count too). A statement '..UptoSaid' is the law's where the arguments, and the package variables that the reading takes, are together of bulk at most 1048576: NARROWER than '..Said'. Prove '..Said' where nothing that the law and all that it calls make is longer than what came in: it says more and counts as full. Else prove '..UptoSaid'. A law counts once. -/
mutual
def uptoBulk {H : Type} : DataW H → Nat
  | .lit (.string bytes) => bytes.length + 1
  | .lit _ => 1
  | .nil => 1
  | .ptr d => uptoBulk d + 1
  | .slice elems spare => uptoBulkAll elems + uptoBulkAll spare + 1
  | .agg parts => uptoBulkAll parts + 1
  | .iface _ d => uptoBulk d + 1
  | .map entries => uptoBulkEntries entries + 1
  | .held _ => 1
def uptoBulkAll {H : Type} : List (DataW H) → Nat
  | [] => 0
  | d :: r => uptoBulk d + uptoBulkAll r
def uptoBulkEntries {H : Type} : List (Lit × DataW H) → Nat
  | [] => 0
  | x :: r => uptoBulkEntry x + uptoBulkEntries r
def uptoBulkEntry {H : Type} : Lit × DataW H → Nat
  | (.string bytes, d) => bytes.length + uptoBulk d + 1
  | (_, d) => uptoBulk d + 1
 end
def uptoSmall : (H : Type) → List (DataW H) → Bool := fun _ ds => decide (uptoBulkAll ds ≤ 1048576)
def OpenSpec.upto (s : _root_.Go.ChangeSpec) : _root_.Go.OpenSpec := { _root_.Go.OpenSpec.ofChange s with cond := some uptoSmall }

/-- 'laws.FnExactDayOk', WHERE WHAT IT READS IS OF BULK AT MOST 1048576: true; the input reads as it did. -/
def fnExactDayOkUptoRow : OpenClaim := { program := "yteigcfcabmoghaa", sum := "c98812ce193671be15953ee0c3e92b1f4403a9141c3e1526e23df7c8f20ed223", func := "loop.example/g03205/laws.FnExactDayOk", spec := "fnExactDayOk", unfollowed := true, recurses := true, apart := false, narrowed := true }
def FnExactDayOkUptoSaid : Prop := fnExactDayOkUptoRow.holds Try.pinned (OpenSpec.upto fnExactDayOkSpec)

/-- 'laws.FnExactAfterDay', WHERE WHAT IT READS IS OF BULK AT MOST 1048576: true; the input reads as it did. -/
def fnExactAfterDayUptoRow : OpenClaim := { program := "yteigcfcabmoghaa", sum := "c98812ce193671be15953ee0c3e92b1f4403a9141c3e1526e23df7c8f20ed223", func := "loop.example/g03205/laws.FnExactAfterDay", spec := "fnExactAfterDay", unfollowed := true, recurses := true, apart := false, narrowed := true }
def FnExactAfterDayUptoSaid : Prop := fnExactAfterDayUptoRow.holds Try.pinned (OpenSpec.upto fnExactAfterDaySpec)

/-- 'laws.FnExactCountEndings', WHERE WHAT IT READS IS OF BULK AT MOST 1048576: true; the input reads as it did. -/
def fnExactCountEndingsUptoRow : OpenClaim := { program := "yteigcfcabmoghaa", sum := "c98812ce193671be15953ee0c3e92b1f4403a9141c3e1526e23df7c8f20ed223", func := "loop.example/g03205/laws.FnExactCountEndings", spec := "fnExactCountEndings", unfollowed := true, recurses := true, apart := false, narrowed := true }
def FnExactCountEndingsUptoSaid : Prop := fnExactCountEndingsUptoRow.holds Try.pinned (OpenSpec.upto fnExactCountEndingsSpec)

/-- 'laws.FnExactCountFirst', WHERE WHAT IT READS IS OF BULK AT MOST 1048576: true; the input reads as it did. -/
def fnExactCountFirstUptoRow : OpenClaim := { program := "yteigcfcabmoghaa", sum := "c98812ce193671be15953ee0c3e92b1f4403a9141c3e1526e23df7c8f20ed223", func := "loop.example/g03205/laws.FnExactCountFirst", spec := "fnExactCountFirst", unfollowed := true, recurses := true, apart := false, narrowed := true }
def FnExactCountFirstUptoSaid : Prop := fnExactCountFirstUptoRow.holds Try.pinned (OpenSpec.upto fnExactCountFirstSpec)

/-- 'laws.FnExactCountPlaces', WHERE WHAT IT READS IS OF BULK AT MOST 1048576: true; the input reads as it did. -/
def fnExactCountPlacesUptoRow : OpenClaim := { program := "yteigcfcabmoghaa", sum := "c98812ce193671be15953ee0c3e92b1f4403a9141c3e1526e23df7c8f20ed223", func := "loop.example/g03205/laws.FnExactCountPlaces", spec := "fnExactCountPlaces", unfollowed := true, recurses := true, apart := false, narrowed := true }
def FnExactCountPlacesUptoSaid : Prop := fnExactCountPlacesUptoRow.holds Try.pinned (OpenSpec.upto fnExactCountPlacesSpec)

/-- 'laws.FnExactCountAlone', WHERE WHAT IT READS IS OF BULK AT MOST 1048576: true; the input reads as it did. -/
def fnExactCountAloneUptoRow : OpenClaim := { program := "yteigcfcabmoghaa", sum := "c98812ce193671be15953ee0c3e92b1f4403a9141c3e1526e23df7c8f20ed223", func := "loop.example/g03205/laws.FnExactCountAlone", spec := "fnExactCountAlone", unfollowed := true, recurses := true, apart := false, narrowed := true }
def FnExactCountAloneUptoSaid : Prop := fnExactCountAloneUptoRow.holds Try.pinned (OpenSpec.upto fnExactCountAloneSpec)

/-- 'laws.FnExactFirstEnding', WHERE WHAT IT READS IS OF BULK AT MOST 1048576: true; the input reads as it did. -/
def fnExactFirstEndingUptoRow : OpenClaim := { program := "yteigcfcabmoghaa", sum := "c98812ce193671be15953ee0c3e92b1f4403a9141c3e1526e23df7c8f20ed223", func := "loop.example/g03205/laws.FnExactFirstEnding", spec := "fnExactFirstEnding", unfollowed := true, recurses := true, apart := false, narrowed := true }
def FnExactFirstEndingUptoSaid : Prop := fnExactFirstEndingUptoRow.holds Try.pinned (OpenSpec.upto fnExactFirstEndingSpec)

/-- 'laws.FnExactNeedsWin', WHERE WHAT IT READS IS OF BULK AT MOST 1048576: true; the input reads as it did. -/
def fnExactNeedsWinUptoRow : OpenClaim := { program := "yteigcfcabmoghaa", sum := "c98812ce193671be15953ee0c3e92b1f4403a9141c3e1526e23df7c8f20ed223", func := "loop.example/g03205/laws.FnExactNeedsWin", spec := "fnExactNeedsWin", unfollowed := true, recurses := true, apart := false, narrowed := true }
def FnExactNeedsWinUptoSaid : Prop := fnExactNeedsWinUptoRow.holds Try.pinned (OpenSpec.upto fnExactNeedsWinSpec)

/-- 'laws.FnExactDecidedBy', WHERE WHAT IT READS IS OF BULK AT MOST 1048576: true; the input reads as it did. -/
def fnExactDecidedByUptoRow : OpenClaim := { program := "yteigcfcabmoghaa", sum := "c98812ce193671be15953ee0c3e92b1f4403a9141c3e1526e23df7c8f20ed223", func := "loop.example/g03205/laws.FnExactDecidedBy", spec := "fnExactDecidedBy", unfollowed := true, recurses := true, apart := false, narrowed := true }
def FnExactDecidedByUptoSaid : Prop := fnExactDecidedByUptoRow.holds Try.pinned (OpenSpec.upto fnExactDecidedBySpec)

/-- 'laws.FnLastDays', WHERE WHAT IT READS IS OF BULK AT MOST 1048576: true; the input reads as it did. -/
def fnLastDaysUptoRow : OpenClaim := { program := "yteigcfcabmoghaa", sum := "c98812ce193671be15953ee0c3e92b1f4403a9141c3e1526e23df7c8f20ed223", func := "loop.example/g03205/laws.FnLastDays", spec := "fnLastDays", unfollowed := true, recurses := true, apart := false, narrowed := true }
def FnLastDaysUptoSaid : Prop := fnLastDaysUptoRow.holds Try.pinned (OpenSpec.upto fnLastDaysSpec)

end Rows
end Go.Proofs.Yteigcfcabmoghaa
