/-
  No cell of these rows narrows 'for every input' (looked for: loops, veiled, ifaces, maps, wideKeys, modest, calm, conditions, laid).
  DERIVED. THE GIVEN ROWS OF THIS SEAT. 10 by the template 'for every input the law returns true; each argument reads behind the call as it read before'; 0 by the template 'total and deterministic' (their statements: YtdgmmgaihgpccaaTotals.lean).
  GIVEN WITH THE SEED: the statements are not yours to turn. If you find one false, say at which input.
  Laid BY PROGRAM, IN A SANDBOX (cutbox-rows.mjs): the forced cells as the released guide's own fill.sh prints them over the translation 4679e2bb86b46536… (all of the seat's roots in one cut). By AI agents, Wed Nov 11 2026. No macro, syntax, notation, axiom, sorry.
-/
import Derived.Test.YtdgmmgaihgpccaaChecked
import GoSem.Claim
import GoSem.ClaimJoined
import GoSem.ClaimMapViews
import Derived.JoinedTies
import Derived.KernelRfl
namespace Go.Proofs.Ytdgmmgaihgpccaa
/- THE CELL 'sum', in the pinned program and in every row, IS THE sha256 OF THE DUMP (.gsa) THAT YtdgmmgaihgpccaaProg.lean LOADS. Nothing in Lean hashes anything: it is a label: what it is worth is what the hold of that sum in a sandbox is worth. -/
noncomputable def Try.pinned : Pinned := { name := "ytdgmmgaihgpccaa", sum := "4679e2bb86b46536755584365e5896279c7e8399e814ebb015c56567abbc4cf6", checked := Try.checked }
namespace Rows
def none {H : Type} : Left H := { results := [], args := [] }

/-- 'laws.FnExactRaceOk': WHATEVER THE INPUT: true; the input reads as it did. -/
def fnExactRaceOkSpec : ChangeSpec := { name := "fnExactRaceOk", fn := fun _ => fun
  | [d1, d2] => { results := [.lit (.bool true)], args := [d1, d2] }
  | _ => none }
def fnExactRaceOkRow : OpenClaim := { program := "ytdgmmgaihgpccaa", sum := "4679e2bb86b46536755584365e5896279c7e8399e814ebb015c56567abbc4cf6", func := "loop.example/g03205/laws.FnExactRaceOk", spec := "fnExactRaceOk", unfollowed := true, recurses := true, apart := false }
def FnExactRaceOkSaid : Prop := fnExactRaceOkRow.holds Try.pinned (OpenSpec.ofChange fnExactRaceOkSpec)

/-- ITS FALSE NEIGHBOUR: 'it returns false'. Refute it at one input. -/
def fnExactRaceOkWrong : ChangeSpec := { name := "fnExactRaceOk", fn := fun _ => fun
  | [d1, d2] => { results := [.lit (.bool false)], args := [d1, d2] }
  | _ => none }
def FnExactRaceOkWrongFalsely : Prop := fnExactRaceOkRow.holds Try.pinned (OpenSpec.ofChange fnExactRaceOkWrong)

/-- 'laws.FnExactGamesLeft': WHATEVER THE INPUT: true; the input reads as it did. -/
def fnExactGamesLeftSpec : ChangeSpec := { name := "fnExactGamesLeft", fn := fun _ => fun
  | [d1, d2, d3] => { results := [.lit (.bool true)], args := [d1, d2, d3] }
  | _ => none }
def fnExactGamesLeftRow : OpenClaim := { program := "ytdgmmgaihgpccaa", sum := "4679e2bb86b46536755584365e5896279c7e8399e814ebb015c56567abbc4cf6", func := "loop.example/g03205/laws.FnExactGamesLeft", spec := "fnExactGamesLeft", unfollowed := true, recurses := true, apart := false }
def FnExactGamesLeftSaid : Prop := fnExactGamesLeftRow.holds Try.pinned (OpenSpec.ofChange fnExactGamesLeftSpec)

/-- ITS FALSE NEIGHBOUR: 'it returns false'. Refute it at one input. -/
def fnExactGamesLeftWrong : ChangeSpec := { name := "fnExactGamesLeft", fn := fun _ => fun
  | [d1, d2, d3] => { results := [.lit (.bool false)], args := [d1, d2, d3] }
  | _ => none }
def FnExactGamesLeftWrongFalsely : Prop := fnExactGamesLeftRow.holds Try.pinned (OpenSpec.ofChange fnExactGamesLeftWrong)

/-- 'laws.FnExactBestWins': WHATEVER THE INPUT: true; the input reads as it did. -/
def fnExactBestWinsSpec : ChangeSpec := { name := "fnExactBestWins", fn := fun _ => fun
  | [d1, d2, d3] => { results := [.lit (.bool true)], args := [d1, d2, d3] }
  | _ => none }
def fnExactBestWinsRow : OpenClaim := { program := "ytdgmmgaihgpccaa", sum := "4679e2bb86b46536755584365e5896279c7e8399e814ebb015c56567abbc4cf6", func := "loop.example/g03205/laws.FnExactBestWins", spec := "fnExactBestWins", unfollowed := true, recurses := true, apart := false }
def FnExactBestWinsSaid : Prop := fnExactBestWinsRow.holds Try.pinned (OpenSpec.ofChange fnExactBestWinsSpec)

/-- ITS FALSE NEIGHBOUR: 'it returns false'. Refute it at one input. -/
def fnExactBestWinsWrong : ChangeSpec := { name := "fnExactBestWins", fn := fun _ => fun
  | [d1, d2, d3] => { results := [.lit (.bool false)], args := [d1, d2, d3] }
  | _ => none }
def FnExactBestWinsWrongFalsely : Prop := fnExactBestWinsRow.holds Try.pinned (OpenSpec.ofChange fnExactBestWinsWrong)

/-- 'laws.FnExactMagicNumber': WHATEVER THE INPUT: true; the input reads as it did. -/
def fnExactMagicNumberSpec : ChangeSpec := { name := "fnExactMagicNumber", fn := fun _ => fun
  | [d1, d2, d3] => { results := [.lit (.bool true)], args := [d1, d2, d3] }
  | _ => none }
def fnExactMagicNumberRow : OpenClaim := { program := "ytdgmmgaihgpccaa", sum := "4679e2bb86b46536755584365e5896279c7e8399e814ebb015c56567abbc4cf6", func := "loop.example/g03205/laws.FnExactMagicNumber", spec := "fnExactMagicNumber", unfollowed := true, recurses := true, apart := false }
def FnExactMagicNumberSaid : Prop := fnExactMagicNumberRow.holds Try.pinned (OpenSpec.ofChange fnExactMagicNumberSpec)

/-- ITS FALSE NEIGHBOUR: 'it returns false'. Refute it at one input. -/
def fnExactMagicNumberWrong : ChangeSpec := { name := "fnExactMagicNumber", fn := fun _ => fun
  | [d1, d2, d3] => { results := [.lit (.bool false)], args := [d1, d2, d3] }
  | _ => none }
def FnExactMagicNumberWrongFalsely : Prop := fnExactMagicNumberRow.holds Try.pinned (OpenSpec.ofChange fnExactMagicNumberWrong)

/-- 'laws.FnExactAfterGames': WHATEVER THE INPUT: true; the input reads as it did. -/
def fnExactAfterGamesSpec : ChangeSpec := { name := "fnExactAfterGames", fn := fun _ => fun
  | [d1, d2, d3] => { results := [.lit (.bool true)], args := [d1, d2, d3] }
  | _ => none }
def fnExactAfterGamesRow : OpenClaim := { program := "ytdgmmgaihgpccaa", sum := "4679e2bb86b46536755584365e5896279c7e8399e814ebb015c56567abbc4cf6", func := "loop.example/g03205/laws.FnExactAfterGames", spec := "fnExactAfterGames", unfollowed := true, recurses := true, apart := false }
def FnExactAfterGamesSaid : Prop := fnExactAfterGamesRow.holds Try.pinned (OpenSpec.ofChange fnExactAfterGamesSpec)

/-- ITS FALSE NEIGHBOUR: 'it returns false'. Refute it at one input. -/
def fnExactAfterGamesWrong : ChangeSpec := { name := "fnExactAfterGames", fn := fun _ => fun
  | [d1, d2, d3] => { results := [.lit (.bool false)], args := [d1, d2, d3] }
  | _ => none }
def FnExactAfterGamesWrongFalsely : Prop := fnExactAfterGamesRow.holds Try.pinned (OpenSpec.ofChange fnExactAfterGamesWrong)

/-- 'laws.FnExactProofOut': WHATEVER THE INPUT: true; the input reads as it did. -/
def fnExactProofOutSpec : ChangeSpec := { name := "fnExactProofOut", fn := fun _ => fun
  | [d1, d2, d3] => { results := [.lit (.bool true)], args := [d1, d2, d3] }
  | _ => none }
def fnExactProofOutRow : OpenClaim := { program := "ytdgmmgaihgpccaa", sum := "4679e2bb86b46536755584365e5896279c7e8399e814ebb015c56567abbc4cf6", func := "loop.example/g03205/laws.FnExactProofOut", spec := "fnExactProofOut", unfollowed := true, recurses := true, apart := false }
def FnExactProofOutSaid : Prop := fnExactProofOutRow.holds Try.pinned (OpenSpec.ofChange fnExactProofOutSpec)

/-- ITS FALSE NEIGHBOUR: 'it returns false'. Refute it at one input. -/
def fnExactProofOutWrong : ChangeSpec := { name := "fnExactProofOut", fn := fun _ => fun
  | [d1, d2, d3] => { results := [.lit (.bool false)], args := [d1, d2, d3] }
  | _ => none }
def FnExactProofOutWrongFalsely : Prop := fnExactProofOutRow.holds Try.pinned (OpenSpec.ofChange fnExactProofOutWrong)

/-- 'laws.FnExactIsOut': WHATEVER THE INPUT: true; the input reads as it did. -/
def fnExactIsOutSpec : ChangeSpec := { name := "fnExactIsOut", fn := fun _ => fun
  | [d1, d2, d3] => { results := [.lit (.bool true)], args := [d1, d2, d3] }
  | _ => none }
def fnExactIsOutRow : OpenClaim := { program := "ytdgmmgaihgpccaa", sum := "4679e2bb86b46536755584365e5896279c7e8399e814ebb015c56567abbc4cf6", func := "loop.example/g03205/laws.FnExactIsOut", spec := "fnExactIsOut", unfollowed := true, recurses := true, apart := false }
def FnExactIsOutSaid : Prop := fnExactIsOutRow.holds Try.pinned (OpenSpec.ofChange fnExactIsOutSpec)

/-- ITS FALSE NEIGHBOUR: 'it returns false'. Refute it at one input. -/
def fnExactIsOutWrong : ChangeSpec := { name := "fnExactIsOut", fn := fun _ => fun
  | [d1, d2, d3] => { results := [.lit (.bool false)], args := [d1, d2, d3] }
  | _ => none }
def FnExactIsOutWrongFalsely : Prop := fnExactIsOutRow.holds Try.pinned (OpenSpec.ofChange fnExactIsOutWrong)

/-- 'laws.FnExactStillIn': WHATEVER THE INPUT: true; the input reads as it did. -/
def fnExactStillInSpec : ChangeSpec := { name := "fnExactStillIn", fn := fun _ => fun
  | [d1, d2] => { results := [.lit (.bool true)], args := [d1, d2] }
  | _ => none }
def fnExactStillInRow : OpenClaim := { program := "ytdgmmgaihgpccaa", sum := "4679e2bb86b46536755584365e5896279c7e8399e814ebb015c56567abbc4cf6", func := "loop.example/g03205/laws.FnExactStillIn", spec := "fnExactStillIn", unfollowed := true, recurses := true, apart := false }
def FnExactStillInSaid : Prop := fnExactStillInRow.holds Try.pinned (OpenSpec.ofChange fnExactStillInSpec)

/-- ITS FALSE NEIGHBOUR: 'it returns false'. Refute it at one input. -/
def fnExactStillInWrong : ChangeSpec := { name := "fnExactStillIn", fn := fun _ => fun
  | [d1, d2] => { results := [.lit (.bool false)], args := [d1, d2] }
  | _ => none }
def FnExactStillInWrongFalsely : Prop := fnExactStillInRow.holds Try.pinned (OpenSpec.ofChange fnExactStillInWrong)

/-- 'laws.FnExactChanceFor': WHATEVER THE INPUT: true; the input reads as it did. -/
def fnExactChanceForSpec : ChangeSpec := { name := "fnExactChanceFor", fn := fun _ => fun
  | [d1, d2, d3] => { results := [.lit (.bool true)], args := [d1, d2, d3] }
  | _ => none }
def fnExactChanceForRow : OpenClaim := { program := "ytdgmmgaihgpccaa", sum := "4679e2bb86b46536755584365e5896279c7e8399e814ebb015c56567abbc4cf6", func := "loop.example/g03205/laws.FnExactChanceFor", spec := "fnExactChanceFor", unfollowed := true, recurses := true, apart := false }
def FnExactChanceForSaid : Prop := fnExactChanceForRow.holds Try.pinned (OpenSpec.ofChange fnExactChanceForSpec)

/-- ITS FALSE NEIGHBOUR: 'it returns false'. Refute it at one input. -/
def fnExactChanceForWrong : ChangeSpec := { name := "fnExactChanceFor", fn := fun _ => fun
  | [d1, d2, d3] => { results := [.lit (.bool false)], args := [d1, d2, d3] }
  | _ => none }
def FnExactChanceForWrongFalsely : Prop := fnExactChanceForRow.holds Try.pinned (OpenSpec.ofChange fnExactChanceForWrong)

/-- 'laws.FnElimination': WHATEVER THE INPUT: true; the input reads as it did. -/
def fnEliminationSpec : ChangeSpec := { name := "fnElimination", fn := fun _ => fun
  | [d] => { results := [.lit (.bool true)], args := [d] }
  | _ => none }
def fnEliminationRow : OpenClaim := { program := "ytdgmmgaihgpccaa", sum := "4679e2bb86b46536755584365e5896279c7e8399e814ebb015c56567abbc4cf6", func := "loop.example/g03205/laws.FnElimination", spec := "fnElimination", unfollowed := true, recurses := true, apart := false }
def FnEliminationSaid : Prop := fnEliminationRow.holds Try.pinned (OpenSpec.ofChange fnEliminationSpec)

/-- ITS FALSE NEIGHBOUR: 'it returns false'. Refute it at one input. -/
def fnEliminationWrong : ChangeSpec := { name := "fnElimination", fn := fun _ => fun
  | [d] => { results := [.lit (.bool false)], args := [d] }
  | _ => none }
def FnEliminationWrongFalsely : Prop := fnEliminationRow.holds Try.pinned (OpenSpec.ofChange fnEliminationWrong)

/- THE SECOND FORM. 'bulk': how many values and letters a reading holds, each counted each time it is reached (what is shared counts as often as it is met; a slice's spare places count too). A statement '..UptoSaid' is the law's where the arguments, and the package variables that the reading takes, are together of bulk at most 1048576: NARROWER than '..Said'. Prove '..Said' where nothing that the law and all that it calls make is longer than what came in: it says more and counts as full. Else prove '..UptoSaid'. A law counts once. -/
mutual
def uptoBulk {H : Type} : DataW H → Nat
  | .lit (.string bytes) => bytes.length + 1
  | .lit _ => 1
  | .nil => 1
  | .ptr d => uptoBulk d + 1
  | .slice elems spare => uptoBulkAll elems + uptoBulkAll spare + 1
  | .agg parts => uptoBulkAll parts + 1
  | .iface _ d => uptoBulk d + 1
  | .map entries => uptoBulkEntries entries + 1
  | .held _ => 1
def uptoBulkAll {H : Type} : List (DataW H) → Nat
  | [] => 0
  | d :: r => uptoBulk d + uptoBulkAll r
def uptoBulkEntries {H : Type} : List (Lit × DataW H) → Nat
  | [] => 0
  | x :: r => uptoBulkEntry x + uptoBulkEntries r
def uptoBulkEntry {H : Type} : Lit × DataW H → Nat
  | (.string bytes, d) => bytes.length + uptoBulk d + 1
  | (_, d) => uptoBulk d + 1
 end
def uptoSmall : (H : Type) → List (DataW H) → Bool := fun _ ds => decide (uptoBulkAll ds ≤ 1048576)
def OpenSpec.upto (s : _root_.Go.ChangeSpec) : _root_.Go.OpenSpec := { _root_.Go.OpenSpec.ofChange s with cond := some uptoSmall }

/-- 'laws.FnExactRaceOk', WHERE WHAT IT READS IS OF BULK AT MOST 1048576: true; the input reads as it did. -/
def fnExactRaceOkUptoRow : OpenClaim := { program := "ytdgmmgaihgpccaa", sum := "4679e2bb86b46536755584365e5896279c7e8399e814ebb015c56567abbc4cf6", func := "loop.example/g03205/laws.FnExactRaceOk", spec := "fnExactRaceOk", unfollowed := true, recurses := true, apart := false, narrowed := true }
def FnExactRaceOkUptoSaid : Prop := fnExactRaceOkUptoRow.holds Try.pinned (OpenSpec.upto fnExactRaceOkSpec)

/-- 'laws.FnExactGamesLeft', WHERE WHAT IT READS IS OF BULK AT MOST 1048576: true; the input reads as it did. -/
def fnExactGamesLeftUptoRow : OpenClaim := { program := "ytdgmmgaihgpccaa", sum := "4679e2bb86b46536755584365e5896279c7e8399e814ebb015c56567abbc4cf6", func := "loop.example/g03205/laws.FnExactGamesLeft", spec := "fnExactGamesLeft", unfollowed := true, recurses := true, apart := false, narrowed := true }
def FnExactGamesLeftUptoSaid : Prop := fnExactGamesLeftUptoRow.holds Try.pinned (OpenSpec.upto fnExactGamesLeftSpec)

/-- 'laws.FnExactBestWins', WHERE WHAT IT READS IS OF BULK AT MOST 1048576: true; the input reads as it did. -/
def fnExactBestWinsUptoRow : OpenClaim := { program := "ytdgmmgaihgpccaa", sum := "4679e2bb86b46536755584365e5896279c7e8399e814ebb015c56567abbc4cf6", func := "loop.example/g03205/laws.FnExactBestWins", spec := "fnExactBestWins", unfollowed := true, recurses := true, apart := false, narrowed := true }
def FnExactBestWinsUptoSaid : Prop := fnExactBestWinsUptoRow.holds Try.pinned (OpenSpec.upto fnExactBestWinsSpec)

/-- 'laws.FnExactMagicNumber', WHERE WHAT IT READS IS OF BULK AT MOST 1048576: true; the input reads as it did. -/
def fnExactMagicNumberUptoRow : OpenClaim := { program := "ytdgmmgaihgpccaa", sum := "4679e2bb86b46536755584365e5896279c7e8399e814ebb015c56567abbc4cf6", func := "loop.example/g03205/laws.FnExactMagicNumber", spec := "fnExactMagicNumber", unfollowed := true, recurses := true, apart := false, narrowed := true }
def FnExactMagicNumberUptoSaid : Prop := fnExactMagicNumberUptoRow.holds Try.pinned (OpenSpec.upto fnExactMagicNumberSpec)

/-- 'laws.FnExactAfterGames', WHERE WHAT IT READS IS OF BULK AT MOST 1048576: true; the input reads as it did. -/
def fnExactAfterGamesUptoRow : OpenClaim := { program := "ytdgmmgaihgpccaa", sum := "4679e2bb86b46536755584365e5896279c7e8399e814ebb015c56567abbc4cf6", func := "loop.example/g03205/laws.FnExactAfterGames", spec := "fnExactAfterGames", unfollowed := true, recurses := true, apart := false, narrowed := true }
def FnExactAfterGamesUptoSaid : Prop := fnExactAfterGamesUptoRow.holds Try.pinned (OpenSpec.upto fnExactAfterGamesSpec)

/-- 'laws.FnExactProofOut', WHERE WHAT IT READS IS OF BULK AT MOST 1048576: true; the input reads as it did. -/
def fnExactProofOutUptoRow : OpenClaim := { program := "ytdgmmgaihgpccaa", sum := "4679e2bb86b46536755584365e5896279c7e8399e814ebb015c56567abbc4cf6", func := "loop.example/g03205/laws.FnExactProofOut", spec := "fnExactProofOut", unfollowed := true, recurses := true, apart := false, narrowed := true }
def FnExactProofOutUptoSaid : Prop := fnExactProofOutUptoRow.holds Try.pinned (OpenSpec.upto fnExactProofOutSpec)

/-- 'laws.FnExactIsOut', WHERE WHAT IT READS IS OF BULK AT MOST 1048576: true; the input reads as it did. -/
def fnExactIsOutUptoRow : OpenClaim := { program := "ytdgmmgaihgpccaa", sum := "4679e2bb86b46536755584365e5896279c7e8399e814ebb015c56567abbc4cf6", func := "loop.example/g03205/laws.FnExactIsOut", spec := "fnExactIsOut", unfollowed := true, recurses := true, apart := false, narrowed := true }
def FnExactIsOutUptoSaid : Prop := fnExactIsOutUptoRow.holds Try.pinned (OpenSpec.upto fnExactIsOutSpec)

/-- 'laws.FnExactStillIn', WHERE WHAT IT READS IS OF BULK AT MOST 1048576: true; the input reads as it did. -/
def fnExactStillInUptoRow : OpenClaim := { program := "ytdgmmgaihgpccaa", sum := "4679e2bb86b46536755584365e5896279c7e8399e814ebb015c56567abbc4cf6", func := "loop.example/g03205/laws.FnExactStillIn", spec := "fnExactStillIn", unfollowed := true, recurses := true, apart := false, narrowed := true }
def FnExactStillInUptoSaid : Prop := fnExactStillInUptoRow.holds Try.pinned (OpenSpec.upto fnExactStillInSpec)

/-- 'laws.FnExactChanceFor', WHERE WHAT IT READS IS OF BULK AT MOST 1048576: true; the input reads as it did. -/
def fnExactChanceForUptoRow : OpenClaim := { program := "ytdgmmgaihgpccaa", sum := "4679e2bb86b46536755584365e5896279c7e8399e814ebb015c56567abbc4cf6", func := "loop.example/g03205/laws.FnExactChanceFor", spec := "fnExactChanceFor", unfollowed := true, recurses := true, apart := false, narrowed := true }
def FnExactChanceForUptoSaid : Prop := fnExactChanceForUptoRow.holds Try.pinned (OpenSpec.upto fnExactChanceForSpec)

/-- 'laws.FnElimination', WHERE WHAT IT READS IS OF BULK AT MOST 1048576: true; the input reads as it did. -/
def fnEliminationUptoRow : OpenClaim := { program := "ytdgmmgaihgpccaa", sum := "4679e2bb86b46536755584365e5896279c7e8399e814ebb015c56567abbc4cf6", func := "loop.example/g03205/laws.FnElimination", spec := "fnElimination", unfollowed := true, recurses := true, apart := false, narrowed := true }
def FnEliminationUptoSaid : Prop := fnEliminationUptoRow.holds Try.pinned (OpenSpec.upto fnEliminationSpec)

end Rows
end Go.Proofs.Ytdgmmgaihgpccaa
