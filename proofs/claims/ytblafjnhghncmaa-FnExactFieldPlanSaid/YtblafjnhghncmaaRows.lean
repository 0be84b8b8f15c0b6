/-
  No cell of these rows narrows 'for every input' (looked for: loops, veiled, ifaces, maps, wideKeys, modest, calm, conditions, laid).
  DERIVED. THE GIVEN ROWS OF THIS SEAT. 12 by the template 'for every input the law returns true; each argument reads behind the call as it read before'; 0 by the template 'total and deterministic' (their statements: YtblafjnhghncmaaTotals.lean).
  GIVEN WITH THE SEED: the statements are not yours to turn. If you find one false, say at which input.
  Laid BY PROGRAM, IN A SANDBOX (cutbox-rows.mjs): the forced cells as the released guide's own fill.sh prints them over the translation b1581be695a6b0fd… (all of the seat's roots in one cut). By AI agents, Wed Nov 11 2026. No macro, syntax, notation, axiom, sorry.
-/
import Derived.Test.YtblafjnhghncmaaChecked
import GoSem.Claim
import GoSem.ClaimJoined
import GoSem.ClaimMapViews
import Derived.JoinedTies
import Derived.KernelRfl
namespace Go.Proofs.Ytblafjnhghncmaa
/- THE CELL 'sum', in the pinned program and in every row, IS THE sha256 OF THE DUMP (.gsa) THAT YtblafjnhghncmaaProg.lean LOADS. Nothing in Lean hashes anything: it is a label: what it is worth is what the hold of that sum in a sandbox is worth. -/
noncomputable def Try.pinned : Pinned := { name := "ytblafjnhghncmaa", sum := "b1581be695a6b0fdc1b243007fa5164aa9c70f053bace20628b45fcebaf8daf9", checked := Try.checked }
namespace Rows
def none {H : Type} : Left H := { results := [], args := [] }

/-- 'laws.FnExactPlanOk': WHATEVER THE INPUT: true; the input reads as it did. -/
def fnExactPlanOkSpec : ChangeSpec := { name := "fnExactPlanOk", fn := fun _ => fun
  | [d1, d2] => { results := [.lit (.bool true)], args := [d1, d2] }
  | _ => none }
def fnExactPlanOkRow : OpenClaim := { program := "ytblafjnhghncmaa", sum := "b1581be695a6b0fdc1b243007fa5164aa9c70f053bace20628b45fcebaf8daf9", func := "loop.example/g03205/laws.FnExactPlanOk", spec := "fnExactPlanOk", apart := false }
def FnExactPlanOkSaid : Prop := fnExactPlanOkRow.holds Try.pinned (OpenSpec.ofChange fnExactPlanOkSpec)

/-- ITS FALSE NEIGHBOUR: 'it returns false'. Refute it at one input. -/
def fnExactPlanOkWrong : ChangeSpec := { name := "fnExactPlanOk", fn := fun _ => fun
  | [d1, d2] => { results := [.lit (.bool false)], args := [d1, d2] }
  | _ => none }
def FnExactPlanOkWrongFalsely : Prop := fnExactPlanOkRow.holds Try.pinned (OpenSpec.ofChange fnExactPlanOkWrong)

/-- 'laws.FnExactCirclePlan': WHATEVER THE INPUT: true; the input reads as it did. -/
def fnExactCirclePlanSpec : ChangeSpec := { name := "fnExactCirclePlan", fn := fun _ => fun
  | [d] => { results := [.lit (.bool true)], args := [d] }
  | _ => none }
def fnExactCirclePlanRow : OpenClaim := { program := "ytblafjnhghncmaa", sum := "b1581be695a6b0fdc1b243007fa5164aa9c70f053bace20628b45fcebaf8daf9", func := "loop.example/g03205/laws.FnExactCirclePlan", spec := "fnExactCirclePlan", apart := false }
def FnExactCirclePlanSaid : Prop := fnExactCirclePlanRow.holds Try.pinned (OpenSpec.ofChange fnExactCirclePlanSpec)

/-- ITS FALSE NEIGHBOUR: 'it returns false'. Refute it at one input. -/
def fnExactCirclePlanWrong : ChangeSpec := { name := "fnExactCirclePlan", fn := fun _ => fun
  | [d] => { results := [.lit (.bool false)], args := [d] }
  | _ => none }
def FnExactCirclePlanWrongFalsely : Prop := fnExactCirclePlanRow.holds Try.pinned (OpenSpec.ofChange fnExactCirclePlanWrong)

/-- 'laws.FnExactXorPlan': WHATEVER THE INPUT: true; the input reads as it did. -/
def fnExactXorPlanSpec : ChangeSpec := { name := "fnExactXorPlan", fn := fun _ => fun
  | [d] => { results := [.lit (.bool true)], args := [d] }
  | _ => none }
def fnExactXorPlanRow : OpenClaim := { program := "ytblafjnhghncmaa", sum := "b1581be695a6b0fdc1b243007fa5164aa9c70f053bace20628b45fcebaf8daf9", func := "loop.example/g03205/laws.FnExactXorPlan", spec := "fnExactXorPlan", apart := false }
def FnExactXorPlanSaid : Prop := fnExactXorPlanRow.holds Try.pinned (OpenSpec.ofChange fnExactXorPlanSpec)

/-- ITS FALSE NEIGHBOUR: 'it returns false'. Refute it at one input. -/
def fnExactXorPlanWrong : ChangeSpec := { name := "fnExactXorPlan", fn := fun _ => fun
  | [d] => { results := [.lit (.bool false)], args := [d] }
  | _ => none }
def FnExactXorPlanWrongFalsely : Prop := fnExactXorPlanRow.holds Try.pinned (OpenSpec.ofChange fnExactXorPlanWrong)

/-- 'laws.FnExactFieldPlan': WHATEVER THE INPUT: true; the input reads as it did. -/
def fnExactFieldPlanSpec : ChangeSpec := { name := "fnExactFieldPlan", fn := fun _ => fun
  | [d] => { results := [.lit (.bool true)], args := [d] }
  | _ => none }
def fnExactFieldPlanRow : OpenClaim := { program := "ytblafjnhghncmaa", sum := "b1581be695a6b0fdc1b243007fa5164aa9c70f053bace20628b45fcebaf8daf9", func := "loop.example/g03205/laws.FnExactFieldPlan", spec := "fnExactFieldPlan", apart := false }
def FnExactFieldPlanSaid : Prop := fnExactFieldPlanRow.holds Try.pinned (OpenSpec.ofChange fnExactFieldPlanSpec)

/-- ITS FALSE NEIGHBOUR: 'it returns false'. Refute it at one input. -/
def fnExactFieldPlanWrong : ChangeSpec := { name := "fnExactFieldPlan", fn := fun _ => fun
  | [d] => { results := [.lit (.bool false)], args := [d] }
  | _ => none }
def FnExactFieldPlanWrongFalsely : Prop := fnExactFieldPlanRow.holds Try.pinned (OpenSpec.ofChange fnExactFieldPlanWrong)

/-- 'laws.FnExactOpponentIn': WHATEVER THE INPUT: true; the input reads as it did. -/
def fnExactOpponentInSpec : ChangeSpec := { name := "fnExactOpponentIn", fn := fun _ => fun
  | [d1, d2, d3, d4] => { results := [.lit (.bool true)], args := [d1, d2, d3, d4] }
  | _ => none }
def fnExactOpponentInRow : OpenClaim := { program := "ytblafjnhghncmaa", sum := "b1581be695a6b0fdc1b243007fa5164aa9c70f053bace20628b45fcebaf8daf9", func := "loop.example/g03205/laws.FnExactOpponentIn", spec := "fnExactOpponentIn", apart := false }
def FnExactOpponentInSaid : Prop := fnExactOpponentInRow.holds Try.pinned (OpenSpec.ofChange fnExactOpponentInSpec)

/-- ITS FALSE NEIGHBOUR: 'it returns false'. Refute it at one input. -/
def fnExactOpponentInWrong : ChangeSpec := { name := "fnExactOpponentIn", fn := fun _ => fun
  | [d1, d2, d3, d4] => { results := [.lit (.bool false)], args := [d1, d2, d3, d4] }
  | _ => none }
def FnExactOpponentInWrongFalsely : Prop := fnExactOpponentInRow.holds Try.pinned (OpenSpec.ofChange fnExactOpponentInWrong)

/-- 'laws.FnExactVenuesOf': WHATEVER THE INPUT: true; the input reads as it did. -/
def fnExactVenuesOfSpec : ChangeSpec := { name := "fnExactVenuesOf", fn := fun _ => fun
  | [d1, d2, d3] => { results := [.lit (.bool true)], args := [d1, d2, d3] }
  | _ => none }
def fnExactVenuesOfRow : OpenClaim := { program := "ytblafjnhghncmaa", sum := "b1581be695a6b0fdc1b243007fa5164aa9c70f053bace20628b45fcebaf8daf9", func := "loop.example/g03205/laws.FnExactVenuesOf", spec := "fnExactVenuesOf", apart := false }
def FnExactVenuesOfSaid : Prop := fnExactVenuesOfRow.holds Try.pinned (OpenSpec.ofChange fnExactVenuesOfSpec)

/-- ITS FALSE NEIGHBOUR: 'it returns false'. Refute it at one input. -/
def fnExactVenuesOfWrong : ChangeSpec := { name := "fnExactVenuesOf", fn := fun _ => fun
  | [d1, d2, d3] => { results := [.lit (.bool false)], args := [d1, d2, d3] }
  | _ => none }
def FnExactVenuesOfWrongFalsely : Prop := fnExactVenuesOfRow.holds Try.pinned (OpenSpec.ofChange fnExactVenuesOfWrong)

/-- 'laws.FnExactIsRoundRobin': WHATEVER THE INPUT: true; the input reads as it did. -/
def fnExactIsRoundRobinSpec : ChangeSpec := { name := "fnExactIsRoundRobin", fn := fun _ => fun
  | [d1, d2, d3] => { results := [.lit (.bool true)], args := [d1, d2, d3] }
  | _ => none }
def fnExactIsRoundRobinRow : OpenClaim := { program := "ytblafjnhghncmaa", sum := "b1581be695a6b0fdc1b243007fa5164aa9c70f053bace20628b45fcebaf8daf9", func := "loop.example/g03205/laws.FnExactIsRoundRobin", spec := "fnExactIsRoundRobin", apart := false }
def FnExactIsRoundRobinSaid : Prop := fnExactIsRoundRobinRow.holds Try.pinned (OpenSpec.ofChange fnExactIsRoundRobinSpec)

/-- ITS FALSE NEIGHBOUR: 'it returns false'. Refute it at one input. -/
def fnExactIsRoundRobinWrong : ChangeSpec := { name := "fnExactIsRoundRobin", fn := fun _ => fun
  | [d1, d2, d3] => { results := [.lit (.bool false)], args := [d1, d2, d3] }
  | _ => none }
def FnExactIsRoundRobinWrongFalsely : Prop := fnExactIsRoundRobinRow.holds Try.pinned (OpenSpec.ofChange fnExactIsRoundRobinWrong)

/-- 'laws.FnExactCountBreaks': WHATEVER THE INPUT: true; the input reads as it did. -/
def fnExactCountBreaksSpec : ChangeSpec := { name := "fnExactCountBreaks", fn := fun _ => fun
  | [d1, d2] => { results := [.lit (.bool true)], args := [d1, d2] }
  | _ => none }
def fnExactCountBreaksRow : OpenClaim := { program := "ytblafjnhghncmaa", sum := "b1581be695a6b0fdc1b243007fa5164aa9c70f053bace20628b45fcebaf8daf9", func := "loop.example/g03205/laws.FnExactCountBreaks", spec := "fnExactCountBreaks", apart := false }
def FnExactCountBreaksSaid : Prop := fnExactCountBreaksRow.holds Try.pinned (OpenSpec.ofChange fnExactCountBreaksSpec)

/-- ITS FALSE NEIGHBOUR: 'it returns false'. Refute it at one input. -/
def fnExactCountBreaksWrong : ChangeSpec := { name := "fnExactCountBreaks", fn := fun _ => fun
  | [d1, d2] => { results := [.lit (.bool false)], args := [d1, d2] }
  | _ => none }
def FnExactCountBreaksWrongFalsely : Prop := fnExactCountBreaksRow.holds Try.pinned (OpenSpec.ofChange fnExactCountBreaksWrong)

/-- 'laws.FnExactBreaksOf': WHATEVER THE INPUT: true; the input reads as it did. -/
def fnExactBreaksOfSpec : ChangeSpec := { name := "fnExactBreaksOf", fn := fun _ => fun
  | [d1, d2, d3] => { results := [.lit (.bool true)], args := [d1, d2, d3] }
  | _ => none }
def fnExactBreaksOfRow : OpenClaim := { program := "ytblafjnhghncmaa", sum := "b1581be695a6b0fdc1b243007fa5164aa9c70f053bace20628b45fcebaf8daf9", func := "loop.example/g03205/laws.FnExactBreaksOf", spec := "fnExactBreaksOf", apart := false }
def FnExactBreaksOfSaid : Prop := fnExactBreaksOfRow.holds Try.pinned (OpenSpec.ofChange fnExactBreaksOfSpec)

/-- ITS FALSE NEIGHBOUR: 'it returns false'. Refute it at one input. -/
def fnExactBreaksOfWrong : ChangeSpec := { name := "fnExactBreaksOf", fn := fun _ => fun
  | [d1, d2, d3] => { results := [.lit (.bool false)], args := [d1, d2, d3] }
  | _ => none }
def FnExactBreaksOfWrongFalsely : Prop := fnExactBreaksOfRow.holds Try.pinned (OpenSpec.ofChange fnExactBreaksOfWrong)

/-- 'laws.FnExactTurnPlan': WHATEVER THE INPUT: true; the input reads as it did. -/
def fnExactTurnPlanSpec : ChangeSpec := { name := "fnExactTurnPlan", fn := fun _ => fun
  | [d1, d2] => { results := [.lit (.bool true)], args := [d1, d2] }
  | _ => none }
def fnExactTurnPlanRow : OpenClaim := { program := "ytblafjnhghncmaa", sum := "b1581be695a6b0fdc1b243007fa5164aa9c70f053bace20628b45fcebaf8daf9", func := "loop.example/g03205/laws.FnExactTurnPlan", spec := "fnExactTurnPlan", apart := false }
def FnExactTurnPlanSaid : Prop := fnExactTurnPlanRow.holds Try.pinned (OpenSpec.ofChange fnExactTurnPlanSpec)

/-- ITS FALSE NEIGHBOUR: 'it returns false'. Refute it at one input. -/
def fnExactTurnPlanWrong : ChangeSpec := { name := "fnExactTurnPlan", fn := fun _ => fun
  | [d1, d2] => { results := [.lit (.bool false)], args := [d1, d2] }
  | _ => none }
def FnExactTurnPlanWrongFalsely : Prop := fnExactTurnPlanRow.holds Try.pinned (OpenSpec.ofChange fnExactTurnPlanWrong)

/-- 'laws.FnExactDoublePlan': WHATEVER THE INPUT: true; the input reads as it did. -/
def fnExactDoublePlanSpec : ChangeSpec := { name := "fnExactDoublePlan", fn := fun _ => fun
  | [d1, d2] => { results := [.lit (.bool true)], args := [d1, d2] }
  | _ => none }
def fnExactDoublePlanRow : OpenClaim := { program := "ytblafjnhghncmaa", sum := "b1581be695a6b0fdc1b243007fa5164aa9c70f053bace20628b45fcebaf8daf9", func := "loop.example/g03205/laws.FnExactDoublePlan", spec := "fnExactDoublePlan", apart := false }
def FnExactDoublePlanSaid : Prop := fnExactDoublePlanRow.holds Try.pinned (OpenSpec.ofChange fnExactDoublePlanSpec)

/-- ITS FALSE NEIGHBOUR: 'it returns false'. Refute it at one input. -/
def fnExactDoublePlanWrong : ChangeSpec := { name := "fnExactDoublePlan", fn := fun _ => fun
  | [d1, d2] => { results := [.lit (.bool false)], args := [d1, d2] }
  | _ => none }
def FnExactDoublePlanWrongFalsely : Prop := fnExactDoublePlanRow.holds Try.pinned (OpenSpec.ofChange fnExactDoublePlanWrong)

/-- 'laws.FnExactSwapRounds': WHATEVER THE INPUT: true; the input reads as it did. -/
def fnExactSwapRoundsSpec : ChangeSpec := { name := "fnExactSwapRounds", fn := fun _ => fun
  | [d1, d2, d3, d4] => { results := [.lit (.bool true)], args := [d1, d2, d3, d4] }
  | _ => none }
def fnExactSwapRoundsRow : OpenClaim := { program := "ytblafjnhghncmaa", sum := "b1581be695a6b0fdc1b243007fa5164aa9c70f053bace20628b45fcebaf8daf9", func := "loop.example/g03205/laws.FnExactSwapRounds", spec := "fnExactSwapRounds", apart := false }
def FnExactSwapRoundsSaid : Prop := fnExactSwapRoundsRow.holds Try.pinned (OpenSpec.ofChange fnExactSwapRoundsSpec)

/-- ITS FALSE NEIGHBOUR: 'it returns false'. Refute it at one input. -/
def fnExactSwapRoundsWrong : ChangeSpec := { name := "fnExactSwapRounds", fn := fun _ => fun
  | [d1, d2, d3, d4] => { results := [.lit (.bool false)], args := [d1, d2, d3, d4] }
  | _ => none }
def FnExactSwapRoundsWrongFalsely : Prop := fnExactSwapRoundsRow.holds Try.pinned (OpenSpec.ofChange fnExactSwapRoundsWrong)

/- THE SECOND FORM. 'bulk': how many values and letters a reading holds, each counted each time it is reached (what is shared counts as often as it is met; a slice's spare places count too). A statement '..UptoSaid' is the law's where the arguments, and the package variables that the reading takes, are together of bulk at most 1048576: NARROWER than '..Said'. Prove '..Said' where nothing that the law and all that it calls make is longer than what came in: it says more and counts as full. Else prove '..UptoSaid'. A law counts once. -/
mutual
def uptoBulk {H : Type} : DataW H → Nat
  | .lit (.string bytes) => bytes.length + 1
  | .lit _ => 1
  | .nil => 1
  | .ptr d => uptoBulk d + 1
  | .slice elems spare => uptoBulkAll elems + uptoBulkAll spare + 1
  | .agg parts => uptoBulkAll parts + 1
  | .iface _ d => uptoBulk d + 1
  | .map entries => uptoBulkEntries entries + 1
  | .held _ => 1
def uptoBulkAll {H : Type} : List (DataW H) → Nat
  | [] => 0
  | d :: r => uptoBulk d + uptoBulkAll r
def uptoBulkEntries {H : Type} : List (Lit × DataW H) → Nat
  | [] => 0
  | x :: r => uptoBulkEntry x + uptoBulkEntries r
def uptoBulkEntry {H : Type} : Lit × DataW H → Nat
  | (.string bytes, d) => bytes.length + uptoBulk d + 1
  | (_, d) => uptoBulk d + 1
 end
def uptoSmall : (H : Type) → List (DataW H) → Bool := fun _ ds => decide (uptoBulkAll ds ≤ 1048576)
def OpenSpec.upto (s : _root_.Go.ChangeSpec) : _root_.Go.OpenSpec := { _root_.Go.OpenSpec.ofChange s with cond := some uptoSmall }

/-- 'laws.FnExactPlanOk', WHERE WHAT IT READS IS OF BULK AT MOST 1048576: true; the input reads as it did. -/
def fnExactPlanOkUptoRow : OpenClaim := { program := "ytblafjnhghncmaa", sum := "b1581be695a6b0fdc1b243007fa5164aa9c70f053bace20628b45fcebaf8daf9", func := "loop.example/g03205/laws.FnExactPlanOk", spec := "fnExactPlanOk", apart := false, narrowed := true }
def FnExactPlanOkUptoSaid : Prop := fnExactPlanOkUptoRow.holds Try.pinned (OpenSpec.upto fnExactPlanOkSpec)

/-- 'laws.FnExactCirclePlan', WHERE WHAT IT READS IS OF BULK AT MOST 1048576: true; the input reads as it did. -/
def fnExactCirclePlanUptoRow : OpenClaim := { program := "ytblafjnhghncmaa", sum := "b1581be695a6b0fdc1b243007fa5164aa9c70f053bace20628b45fcebaf8daf9", func := "loop.example/g03205/laws.FnExactCirclePlan", spec := "fnExactCirclePlan", apart := false, narrowed := true }
def FnExactCirclePlanUptoSaid : Prop := fnExactCirclePlanUptoRow.holds Try.pinned (OpenSpec.upto fnExactCirclePlanSpec)

/-- 'laws.FnExactXorPlan', WHERE WHAT IT READS IS OF BULK AT MOST 1048576: true; the input reads as it did. -/
def fnExactXorPlanUptoRow : OpenClaim := { program := "ytblafjnhghncmaa", sum := "b1581be695a6b0fdc1b243007fa5164aa9c70f053bace20628b45fcebaf8daf9", func := "loop.example/g03205/laws.FnExactXorPlan", spec := "fnExactXorPlan", apart := false, narrowed := true }
def FnExactXorPlanUptoSaid : Prop := fnExactXorPlanUptoRow.holds Try.pinned (OpenSpec.upto fnExactXorPlanSpec)

/-- 'laws.FnExactFieldPlan', WHERE WHAT IT READS IS OF BULK AT MOST 1048576: true; the input reads as it did. -/
def fnExactFieldPlanUptoRow : OpenClaim := { program := "ytblafjnhghncmaa", sum := "b1581be695a6b0fdc1b243007fa5164aa9c70f053bace20628b45fcebaf8daf9", func := "loop.example/g03205/laws.FnExactFieldPlan", spec := "fnExactFieldPlan", apart := false, narrowed := true }
def FnExactFieldPlanUptoSaid : Prop := fnExactFieldPlanUptoRow.holds Try.pinned (OpenSpec.upto fnExactFieldPlanSpec)

/-- 'laws.FnExactOpponentIn', WHERE WHAT IT READS IS OF BULK AT MOST 1048576: true; the input reads as it did. -/
def fnExactOpponentInUptoRow : OpenClaim := { program := "ytblafjnhghncmaa", sum := "b1581be695a6b0fdc1b243007fa5164aa9c70f053bace20628b45fcebaf8daf9", func := "loop.example/g03205/laws.FnExactOpponentIn", spec := "fnExactOpponentIn", apart := false, narrowed := true }
def FnExactOpponentInUptoSaid : Prop := fnExactOpponentInUptoRow.holds Try.pinned (OpenSpec.upto fnExactOpponentInSpec)

/-- 'laws.FnExactVenuesOf', WHERE WHAT IT READS IS OF BULK AT MOST 1048576: true; the input reads as it did. -/
def fnExactVenuesOfUptoRow : OpenClaim := { program := "ytblafjnhghncmaa", sum := "b1581be695a6b0fdc1b243007fa5164aa9c70f053bace20628b45fcebaf8daf9", func := "loop.example/g03205/laws.FnExactVenuesOf", spec := "fnExactVenuesOf", apart := false, narrowed := true }
def FnExactVenuesOfUptoSaid : Prop := fnExactVenuesOfUptoRow.holds Try.pinned (OpenSpec.upto fnExactVenuesOfSpec)

/-- 'laws.FnExactIsRoundRobin', WHERE WHAT IT READS IS OF BULK AT MOST 1048576: true; the input reads as it did. -/
def fnExactIsRoundRobinUptoRow : OpenClaim := { program := "ytblafjnhghncmaa", sum := "b1581be695a6b0fdc1b243007fa5164aa9c70f053bace20628b45fcebaf8daf9", func := "loop.example/g03205/laws.FnExactIsRoundRobin", spec := "fnExactIsRoundRobin", apart := false, narrowed := true }
def FnExactIsRoundRobinUptoSaid : Prop := fnExactIsRoundRobinUptoRow.holds Try.pinned (OpenSpec.upto fnExactIsRoundRobinSpec)

/-- 'laws.FnExactCountBreaks', WHERE WHAT IT READS IS OF BULK AT MOST 1048576: true; the input reads as it did. -/
def fnExactCountBreaksUptoRow : OpenClaim := { program := "ytblafjnhghncmaa", sum := "b1581be695a6b0fdc1b243007fa5164aa9c70f053bace20628b45fcebaf8daf9", func := "loop.example/g03205/laws.FnExactCountBreaks", spec := "fnExactCountBreaks", apart := false, narrowed := true }
def FnExactCountBreaksUptoSaid : Prop := fnExactCountBreaksUptoRow.holds Try.pinned (OpenSpec.upto fnExactCountBreaksSpec)

/-- 'laws.FnExactBreaksOf', WHERE WHAT IT READS IS OF BULK AT MOST 1048576: true; the input reads as it did. -/
def fnExactBreaksOfUptoRow : OpenClaim := { program := "ytblafjnhghncmaa", sum := "b1581be695a6b0fdc1b243007fa5164aa9c70f053bace20628b45fcebaf8daf9", func := "loop.example/g03205/laws.FnExactBreaksOf", spec := "fnExactBreaksOf", apart := false, narrowed := true }
def FnExactBreaksOfUptoSaid : Prop := fnExactBreaksOfUptoRow.holds Try.pinned (OpenSpec.upto fnExactBreaksOfSpec)

/-- 'laws.FnExactTurnPlan', WHERE WHAT IT READS IS OF BULK AT MOST 1048576: true; the input reads as it did. -/
def fnExactTurnPlanUptoRow : OpenClaim := { program := "ytblafjnhghncmaa", sum := "b1581be695a6b0fdc1b243007fa5164aa9c70f053bace20628b45fcebaf8daf9", func := "loop.example/g03205/laws.FnExactTurnPlan", spec := "fnExactTurnPlan", apart := false, narrowed := true }
def FnExactTurnPlanUptoSaid : Prop := fnExactTurnPlanUptoRow.holds Try.pinned (OpenSpec.upto fnExactTurnPlanSpec)

/-- 'laws.FnExactDoublePlan', WHERE WHAT IT READS IS OF BULK AT MOST 1048576: true; the input reads as it did. -/
def fnExactDoublePlanUptoRow : OpenClaim := { program := "ytblafjnhghncmaa", sum := "b1581be695a6b0fdc1b243007fa5164aa9c70f053bace20628b45fcebaf8daf9", func := "loop.example/g03205/laws.FnExactDoublePlan", spec := "fnExactDoublePlan", apart := false, narrowed := true }
def FnExactDoublePlanUptoSaid : Prop := fnExactDoublePlanUptoRow.holds Try.pinned (OpenSpec.upto fnExactDoublePlanSpec)

/-- 'laws.FnExactSwapRounds', WHERE WHAT IT READS IS OF BULK AT MOST 1048576: true; the input reads as it did. -/
def fnExactSwapRoundsUptoRow : OpenClaim := { program := "ytblafjnhghncmaa", sum := "b1581be695a6b0fdc1b243007fa5164aa9c70f053bace20628b45fcebaf8daf9", func := "loop.example/g03205/laws.FnExactSwapRounds", spec := "fnExactSwapRounds", apart := false, narrowed := true }
def FnExactSwapRoundsUptoSaid : Prop := fnExactSwapRoundsUptoRow.holds Try.pinned (OpenSpec.upto fnExactSwapRoundsSpec)

end Rows
end Go.Proofs.Ytblafjnhghncmaa
