/-
  No cell of these rows narrows 'for every input' (looked for: loops, veiled, ifaces, maps, wideKeys, modest, calm, conditions, laid).
  DERIVED. THE GIVEN ROWS OF THIS SEAT. 8 by the template 'for every input the law returns true; each argument reads behind the call as it read before'; 0 by the template 'total and deterministic' (their statements: YtehlijpjcjegcaaTotals.lean).
  GIVEN WITH THE SEED: the statements are not yours to turn. If you find one false, say at which input.
  Laid BY PROGRAM, IN A SANDBOX (cutbox-rows.mjs): the forced cells as the released guide's own fill.sh prints them over the translation cca31524c472b3d1… (all of the seat's roots in one cut). By AI agents, Wed Nov 11 2026. No macro, syntax, notation, axiom, sorry.
-/
import Derived.Test.YtehlijpjcjegcaaChecked
import GoSem.Claim
import GoSem.ClaimJoined
import GoSem.ClaimMapViews
import Derived.JoinedTies
import Derived.KernelRfl
namespace Go.Proofs.Ytehlijpjcjegcaa
/- THE CELL 'sum', in the pinned program and in every row, IS THE sha256 OF THE DUMP (.gsa) THAT YtehlijpjcjegcaaProg.lean LOADS. Nothing in Lean hashes anything: it is a label: what it is worth is what the hold of that sum in a sandbox is worth. -/
noncomputable def Try.pinned : Pinned := { name := "ytehlijpjcjegcaa", sum := "cca31524c472b3d13e11c277cdb62aa4786a22464fb765eb7a55ebb04f45989a", checked := Try.checked }
namespace Rows
def none {H : Type} : Left H := { results := [], args := [] }

/-- 'laws.FnExactTiedIn': WHATEVER THE INPUT: true; the input reads as it did. -/
def fnExactTiedInSpec : ChangeSpec := { name := "fnExactTiedIn", fn := fun _ => fun
  | [d1, d2] => { results := [.lit (.bool true)], args := [d1, d2] }
  | _ => none }
def fnExactTiedInRow : OpenClaim := { program := "ytehlijpjcjegcaa", sum := "cca31524c472b3d13e11c277cdb62aa4786a22464fb765eb7a55ebb04f45989a", func := "loop.example/g03205/laws.FnExactTiedIn", spec := "fnExactTiedIn", unfollowed := true, recurses := true, apart := false }
def FnExactTiedInSaid : Prop := fnExactTiedInRow.holds Try.pinned (OpenSpec.ofChange fnExactTiedInSpec)

/-- ITS FALSE NEIGHBOUR: 'it returns false'. Refute it at one input. -/
def fnExactTiedInWrong : ChangeSpec := { name := "fnExactTiedIn", fn := fun _ => fun
  | [d1, d2] => { results := [.lit (.bool false)], args := [d1, d2] }
  | _ => none }
def FnExactTiedInWrongFalsely : Prop := fnExactTiedInRow.holds Try.pinned (OpenSpec.ofChange fnExactTiedInWrong)

/-- 'laws.FnExactProgressOf': WHATEVER THE INPUT: true; the input reads as it did. -/
def fnExactProgressOfSpec : ChangeSpec := { name := "fnExactProgressOf", fn := fun _ => fun
  | [d] => { results := [.lit (.bool true)], args := [d] }
  | _ => none }
def fnExactProgressOfRow : OpenClaim := { program := "ytehlijpjcjegcaa", sum := "cca31524c472b3d13e11c277cdb62aa4786a22464fb765eb7a55ebb04f45989a", func := "loop.example/g03205/laws.FnExactProgressOf", spec := "fnExactProgressOf", unfollowed := true, recurses := true, apart := false }
def FnExactProgressOfSaid : Prop := fnExactProgressOfRow.holds Try.pinned (OpenSpec.ofChange fnExactProgressOfSpec)

/-- ITS FALSE NEIGHBOUR: 'it returns false'. Refute it at one input. -/
def fnExactProgressOfWrong : ChangeSpec := { name := "fnExactProgressOf", fn := fun _ => fun
  | [d] => { results := [.lit (.bool false)], args := [d] }
  | _ => none }
def FnExactProgressOfWrongFalsely : Prop := fnExactProgressOfRow.holds Try.pinned (OpenSpec.ofChange fnExactProgressOfWrong)

/-- 'laws.FnExactOpponentSums': WHATEVER THE INPUT: true; the input reads as it did. -/
def fnExactOpponentSumsSpec : ChangeSpec := { name := "fnExactOpponentSums", fn := fun _ => fun
  | [d] => { results := [.lit (.bool true)], args := [d] }
  | _ => none }
def fnExactOpponentSumsRow : OpenClaim := { program := "ytehlijpjcjegcaa", sum := "cca31524c472b3d13e11c277cdb62aa4786a22464fb765eb7a55ebb04f45989a", func := "loop.example/g03205/laws.FnExactOpponentSums", spec := "fnExactOpponentSums", unfollowed := true, recurses := true, apart := false }
def FnExactOpponentSumsSaid : Prop := fnExactOpponentSumsRow.holds Try.pinned (OpenSpec.ofChange fnExactOpponentSumsSpec)

/-- ITS FALSE NEIGHBOUR: 'it returns false'. Refute it at one input. -/
def fnExactOpponentSumsWrong : ChangeSpec := { name := "fnExactOpponentSums", fn := fun _ => fun
  | [d] => { results := [.lit (.bool false)], args := [d] }
  | _ => none }
def FnExactOpponentSumsWrongFalsely : Prop := fnExactOpponentSumsRow.holds Try.pinned (OpenSpec.ofChange fnExactOpponentSumsWrong)

/-- 'laws.FnExactWeightedSums': WHATEVER THE INPUT: true; the input reads as it did. -/
def fnExactWeightedSumsSpec : ChangeSpec := { name := "fnExactWeightedSums", fn := fun _ => fun
  | [d] => { results := [.lit (.bool true)], args := [d] }
  | _ => none }
def fnExactWeightedSumsRow : OpenClaim := { program := "ytehlijpjcjegcaa", sum := "cca31524c472b3d13e11c277cdb62aa4786a22464fb765eb7a55ebb04f45989a", func := "loop.example/g03205/laws.FnExactWeightedSums", spec := "fnExactWeightedSums", unfollowed := true, recurses := true, apart := false }
def FnExactWeightedSumsSaid : Prop := fnExactWeightedSumsRow.holds Try.pinned (OpenSpec.ofChange fnExactWeightedSumsSpec)

/-- ITS FALSE NEIGHBOUR: 'it returns false'. Refute it at one input. -/
def fnExactWeightedSumsWrong : ChangeSpec := { name := "fnExactWeightedSums", fn := fun _ => fun
  | [d] => { results := [.lit (.bool false)], args := [d] }
  | _ => none }
def FnExactWeightedSumsWrongFalsely : Prop := fnExactWeightedSumsRow.holds Try.pinned (OpenSpec.ofChange fnExactWeightedSumsWrong)

/-- 'laws.FnExactMedianSums': WHATEVER THE INPUT: true; the input reads as it did. -/
def fnExactMedianSumsSpec : ChangeSpec := { name := "fnExactMedianSums", fn := fun _ => fun
  | [d] => { results := [.lit (.bool true)], args := [d] }
  | _ => none }
def fnExactMedianSumsRow : OpenClaim := { program := "ytehlijpjcjegcaa", sum := "cca31524c472b3d13e11c277cdb62aa4786a22464fb765eb7a55ebb04f45989a", func := "loop.example/g03205/laws.FnExactMedianSums", spec := "fnExactMedianSums", unfollowed := true, recurses := true, apart := false }
def FnExactMedianSumsSaid : Prop := fnExactMedianSumsRow.holds Try.pinned (OpenSpec.ofChange fnExactMedianSumsSpec)

/-- ITS FALSE NEIGHBOUR: 'it returns false'. Refute it at one input. -/
def fnExactMedianSumsWrong : ChangeSpec := { name := "fnExactMedianSums", fn := fun _ => fun
  | [d] => { results := [.lit (.bool false)], args := [d] }
  | _ => none }
def FnExactMedianSumsWrongFalsely : Prop := fnExactMedianSumsRow.holds Try.pinned (OpenSpec.ofChange fnExactMedianSumsWrong)

/-- 'laws.FnExactHeadTable': WHATEVER THE INPUT: true; the input reads as it did. -/
def fnExactHeadTableSpec : ChangeSpec := { name := "fnExactHeadTable", fn := fun _ => fun
  | [d1, d2] => { results := [.lit (.bool true)], args := [d1, d2] }
  | _ => none }
def fnExactHeadTableRow : OpenClaim := { program := "ytehlijpjcjegcaa", sum := "cca31524c472b3d13e11c277cdb62aa4786a22464fb765eb7a55ebb04f45989a", func := "loop.example/g03205/laws.FnExactHeadTable", spec := "fnExactHeadTable", unfollowed := true, recurses := true, apart := false }
def FnExactHeadTableSaid : Prop := fnExactHeadTableRow.holds Try.pinned (OpenSpec.ofChange fnExactHeadTableSpec)

/-- ITS FALSE NEIGHBOUR: 'it returns false'. Refute it at one input. -/
def fnExactHeadTableWrong : ChangeSpec := { name := "fnExactHeadTable", fn := fun _ => fun
  | [d1, d2] => { results := [.lit (.bool false)], args := [d1, d2] }
  | _ => none }
def FnExactHeadTableWrongFalsely : Prop := fnExactHeadTableRow.holds Try.pinned (OpenSpec.ofChange fnExactHeadTableWrong)

/-- 'laws.FnExactFairTable': WHATEVER THE INPUT: true; the input reads as it did. -/
def fnExactFairTableSpec : ChangeSpec := { name := "fnExactFairTable", fn := fun _ => fun
  | [d] => { results := [.lit (.bool true)], args := [d] }
  | _ => none }
def fnExactFairTableRow : OpenClaim := { program := "ytehlijpjcjegcaa", sum := "cca31524c472b3d13e11c277cdb62aa4786a22464fb765eb7a55ebb04f45989a", func := "loop.example/g03205/laws.FnExactFairTable", spec := "fnExactFairTable", unfollowed := true, recurses := true, apart := false }
def FnExactFairTableSaid : Prop := fnExactFairTableRow.holds Try.pinned (OpenSpec.ofChange fnExactFairTableSpec)

/-- ITS FALSE NEIGHBOUR: 'it returns false'. Refute it at one input. -/
def fnExactFairTableWrong : ChangeSpec := { name := "fnExactFairTable", fn := fun _ => fun
  | [d] => { results := [.lit (.bool false)], args := [d] }
  | _ => none }
def FnExactFairTableWrongFalsely : Prop := fnExactFairTableRow.holds Try.pinned (OpenSpec.ofChange fnExactFairTableWrong)

/-- 'laws.FnTies': WHATEVER THE INPUT: true; the input reads as it did. -/
def fnTiesSpec : ChangeSpec := { name := "fnTies", fn := fun _ => fun
  | [d] => { results := [.lit (.bool true)], args := [d] }
  | _ => none }
def fnTiesRow : OpenClaim := { program := "ytehlijpjcjegcaa", sum := "cca31524c472b3d13e11c277cdb62aa4786a22464fb765eb7a55ebb04f45989a", func := "loop.example/g03205/laws.FnTies", spec := "fnTies", unfollowed := true, recurses := true, apart := false }
def FnTiesSaid : Prop := fnTiesRow.holds Try.pinned (OpenSpec.ofChange fnTiesSpec)

/-- ITS FALSE NEIGHBOUR: 'it returns false'. Refute it at one input. -/
def fnTiesWrong : ChangeSpec := { name := "fnTies", fn := fun _ => fun
  | [d] => { results := [.lit (.bool false)], args := [d] }
  | _ => none }
def FnTiesWrongFalsely : Prop := fnTiesRow.holds Try.pinned (OpenSpec.ofChange fnTiesWrong)

/- THE SECOND FORM. 'bulk': how many values and letters a reading holds, each counted each time it is reached (what is shared counts as often as it is met; a slice's spare places count too). A statement '..UptoSaid' is the law's where the arguments, and the package variables that the reading takes, are together of bulk at most 1048576: NARROWER than '..Said'. Prove '..Said' where nothing that the law and all that it calls make is longer than what came in: it says more and counts as full. Else prove '..UptoSaid'. A law counts once. -/
mutual
def uptoBulk {H : Type} : DataW H → Nat
  | .lit (.string bytes) => bytes.length + 1
  | .lit _ => 1
  | .nil => 1
  | .ptr d => uptoBulk d + 1
  | .slice elems spare => uptoBulkAll elems + uptoBulkAll spare + 1
  | .agg parts => uptoBulkAll parts + 1
  | .iface _ d => uptoBulk d + 1
  | .map entries => uptoBulkEntries entries + 1
  | .held _ => 1
def uptoBulkAll {H : Type} : List (DataW H) → Nat
  | [] => 0
  | d :: r => uptoBulk d + uptoBulkAll r
def uptoBulkEntries {H : Type} : List (Lit × DataW H) → Nat
  | [] => 0
  | x :: r => uptoBulkEntry x + uptoBulkEntries r
def uptoBulkEntry {H : Type} : Lit × DataW H → Nat
  | (.string bytes, d) => bytes.length + uptoBulk d + 1
  | (_, d) => uptoBulk d + 1
 end
def uptoSmall : (H : Type) → List (DataW H) → Bool := fun _ ds => decide (uptoBulkAll ds ≤ 1048576)
def OpenSpec.upto (s : _root_.Go.ChangeSpec) : _root_.Go.OpenSpec := { _root_.Go.OpenSpec.ofChange s with cond := some uptoSmall }

/-- 'laws.FnExactTiedIn', WHERE WHAT IT READS IS OF BULK AT MOST 1048576: true; the input reads as it did. -/
def fnExactTiedInUptoRow : OpenClaim := { program := "ytehlijpjcjegcaa", sum := "cca31524c472b3d13e11c277cdb62aa4786a22464fb765eb7a55ebb04f45989a", func := "loop.example/g03205/laws.FnExactTiedIn", spec := "fnExactTiedIn", unfollowed := true, recurses := true, apart := false, narrowed := true }
def FnExactTiedInUptoSaid : Prop := fnExactTiedInUptoRow.holds Try.pinned (OpenSpec.upto fnExactTiedInSpec)

/-- 'laws.FnExactProgressOf', WHERE WHAT IT READS IS OF BULK AT MOST 1048576: true; the input reads as it did. -/
def fnExactProgressOfUptoRow : OpenClaim := { program := "ytehlijpjcjegcaa", sum := "cca31524c472b3d13e11c277cdb62aa4786a22464fb765eb7a55ebb04f45989a", func := "loop.example/g03205/laws.FnExactProgressOf", spec := "fnExactProgressOf", unfollowed := true, recurses := true, apart := false, narrowed := true }
def FnExactProgressOfUptoSaid : Prop := fnExactProgressOfUptoRow.holds Try.pinned (OpenSpec.upto fnExactProgressOfSpec)

/-- 'laws.FnExactOpponentSums', WHERE WHAT IT READS IS OF BULK AT MOST 1048576: true; the input reads as it did. -/
def fnExactOpponentSumsUptoRow : OpenClaim := { program := "ytehlijpjcjegcaa", sum := "cca31524c472b3d13e11c277cdb62aa4786a22464fb765eb7a55ebb04f45989a", func := "loop.example/g03205/laws.FnExactOpponentSums", spec := "fnExactOpponentSums", unfollowed := true, recurses := true, apart := false, narrowed := true }
def FnExactOpponentSumsUptoSaid : Prop := fnExactOpponentSumsUptoRow.holds Try.pinned (OpenSpec.upto fnExactOpponentSumsSpec)

/-- 'laws.FnExactWeightedSums', WHERE WHAT IT READS IS OF BULK AT MOST 1048576: true; the input reads as it did. -/
def fnExactWeightedSumsUptoRow : OpenClaim := { program := "ytehlijpjcjegcaa", sum := "cca31524c472b3d13e11c277cdb62aa4786a22464fb765eb7a55ebb04f45989a", func := "loop.example/g03205/laws.FnExactWeightedSums", spec := "fnExactWeightedSums", unfollowed := true, recurses := true, apart := false, narrowed := true }
def FnExactWeightedSumsUptoSaid : Prop := fnExactWeightedSumsUptoRow.holds Try.pinned (OpenSpec.upto fnExactWeightedSumsSpec)

/-- 'laws.FnExactMedianSums', WHERE WHAT IT READS IS OF BULK AT MOST 1048576: true; the input reads as it did. -/
def fnExactMedianSumsUptoRow : OpenClaim := { program := "ytehlijpjcjegcaa", sum := "cca31524c472b3d13e11c277cdb62aa4786a22464fb765eb7a55ebb04f45989a", func := "loop.example/g03205/laws.FnExactMedianSums", spec := "fnExactMedianSums", unfollowed := true, recurses := true, apart := false, narrowed := true }
def FnExactMedianSumsUptoSaid : Prop := fnExactMedianSumsUptoRow.holds Try.pinned (OpenSpec.upto fnExactMedianSumsSpec)

/-- 'laws.FnExactHeadTable', WHERE WHAT IT READS IS OF BULK AT MOST 1048576: true; the input reads as it did. -/
def fnExactHeadTableUptoRow : OpenClaim := { program := "ytehlijpjcjegcaa", sum := "cca31524c472b3d13e11c277cdb62aa4786a22464fb765eb7a55ebb04f45989a", func := "loop.example/g03205/laws.FnExactHeadTable", spec := "fnExactHeadTable", unfollowed := true, recurses := true, apart := false, narrowed := true }
def FnExactHeadTableUptoSaid : Prop := fnExactHeadTableUptoRow.holds Try.pinned (OpenSpec.upto fnExactHeadTableSpec)

/-- 'laws.FnExactFairTable', WHERE WHAT IT READS IS OF BULK AT MOST 1048576: true; the input reads as it did. -/
def fnExactFairTableUptoRow : OpenClaim := { program := "ytehlijpjcjegcaa", sum := "cca31524c472b3d13e11c277cdb62aa4786a22464fb765eb7a55ebb04f45989a", func := "loop.example/g03205/laws.FnExactFairTable", spec := "fnExactFairTable", unfollowed := true, recurses := true, apart := false, narrowed := true }
def FnExactFairTableUptoSaid : Prop := fnExactFairTableUptoRow.holds Try.pinned (OpenSpec.upto fnExactFairTableSpec)

/-- 'laws.FnTies', WHERE WHAT IT READS IS OF BULK AT MOST 1048576: true; the input reads as it did. -/
def fnTiesUptoRow : OpenClaim := { program := "ytehlijpjcjegcaa", sum := "cca31524c472b3d13e11c277cdb62aa4786a22464fb765eb7a55ebb04f45989a", func := "loop.example/g03205/laws.FnTies", spec := "fnTies", unfollowed := true, recurses := true, apart := false, narrowed := true }
def FnTiesUptoSaid : Prop := fnTiesUptoRow.holds Try.pinned (OpenSpec.upto fnTiesSpec)

end Rows
end Go.Proofs.Ytehlijpjcjegcaa
