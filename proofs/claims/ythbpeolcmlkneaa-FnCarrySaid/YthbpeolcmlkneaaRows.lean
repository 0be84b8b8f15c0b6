/-
  No cell of these rows narrows 'for every input' (looked for: loops, veiled, ifaces, maps, wideKeys, modest, calm, conditions, laid).
  DERIVED. THE GIVEN ROWS OF THIS SEAT. 7 by the template 'for every input the law returns true; each argument reads behind the call as it read before'; 0 by the template 'total and deterministic' (their statements: YthbpeolcmlkneaaTotals.lean).
  GIVEN WITH THE SEED: the statements are not yours to turn. If you find one false, say at which input.
  Laid BY PROGRAM, IN A SANDBOX (cutbox-rows.mjs): the forced cells as the released guide's own fill.sh prints them over the translation 5cf20807d1027546… (all of the seat's roots in one cut). By AI agents, Wed Nov 11 2026. No macro, syntax, notation, axiom, sorry.
-/
import Derived.Test.YthbpeolcmlkneaaChecked
import GoSem.Claim
import GoSem.ClaimJoined
import GoSem.ClaimMapViews
import Derived.JoinedTies
import Derived.KernelRfl
namespace Go.Proofs.Ythbpeolcmlkneaa
/- THE CELL 'sum', in the pinned program and in every row, IS THE sha256 OF THE DUMP (.gsa) THAT YthbpeolcmlkneaaProg.lean LOADS. Nothing in Lean hashes anything: it is a label: what it is worth is what the hold of that sum in a sandbox is worth. -/
noncomputable def Try.pinned : Pinned := { name := "ythbpeolcmlkneaa", sum := "5cf20807d102754607561cbd4a6b84549830981612ae91f03e28be66eadd63a8", checked := Try.checked }
namespace Rows
def none {H : Type} : Left H := { results := [], args := [] }

/-- 'laws.FnExactCarryTable': WHATEVER THE INPUT: true; the input reads as it did. -/
def fnExactCarryTableSpec : ChangeSpec := { name := "fnExactCarryTable", fn := fun _ => fun
  | [d1, d2] => { results := [.lit (.bool true)], args := [d1, d2] }
  | _ => none }
def fnExactCarryTableRow : OpenClaim := { program := "ythbpeolcmlkneaa", sum := "5cf20807d102754607561cbd4a6b84549830981612ae91f03e28be66eadd63a8", func := "loop.example/g03205/laws.FnExactCarryTable", spec := "fnExactCarryTable", apart := false }
def FnExactCarryTableSaid : Prop := fnExactCarryTableRow.holds Try.pinned (OpenSpec.ofChange fnExactCarryTableSpec)

/-- ITS FALSE NEIGHBOUR: 'it returns false'. Refute it at one input. -/
def fnExactCarryTableWrong : ChangeSpec := { name := "fnExactCarryTable", fn := fun _ => fun
  | [d1, d2] => { results := [.lit (.bool false)], args := [d1, d2] }
  | _ => none }
def FnExactCarryTableWrongFalsely : Prop := fnExactCarryTableRow.holds Try.pinned (OpenSpec.ofChange fnExactCarryTableWrong)

/-- 'laws.FnExactCarryValue': WHATEVER THE INPUT: true; the input reads as it did. -/
def fnExactCarryValueSpec : ChangeSpec := { name := "fnExactCarryValue", fn := fun _ => fun
  | [d1, d2] => { results := [.lit (.bool true)], args := [d1, d2] }
  | _ => none }
def fnExactCarryValueRow : OpenClaim := { program := "ythbpeolcmlkneaa", sum := "5cf20807d102754607561cbd4a6b84549830981612ae91f03e28be66eadd63a8", func := "loop.example/g03205/laws.FnExactCarryValue", spec := "fnExactCarryValue", apart := false }
def FnExactCarryValueSaid : Prop := fnExactCarryValueRow.holds Try.pinned (OpenSpec.ofChange fnExactCarryValueSpec)

/-- ITS FALSE NEIGHBOUR: 'it returns false'. Refute it at one input. -/
def fnExactCarryValueWrong : ChangeSpec := { name := "fnExactCarryValue", fn := fun _ => fun
  | [d1, d2] => { results := [.lit (.bool false)], args := [d1, d2] }
  | _ => none }
def FnExactCarryValueWrongFalsely : Prop := fnExactCarryValueRow.holds Try.pinned (OpenSpec.ofChange fnExactCarryValueWrong)

/-- 'laws.FnExactIsBalancedPlan': WHATEVER THE INPUT: true; the input reads as it did. -/
def fnExactIsBalancedPlanSpec : ChangeSpec := { name := "fnExactIsBalancedPlan", fn := fun _ => fun
  | [d1, d2] => { results := [.lit (.bool true)], args := [d1, d2] }
  | _ => none }
def fnExactIsBalancedPlanRow : OpenClaim := { program := "ythbpeolcmlkneaa", sum := "5cf20807d102754607561cbd4a6b84549830981612ae91f03e28be66eadd63a8", func := "loop.example/g03205/laws.FnExactIsBalancedPlan", spec := "fnExactIsBalancedPlan", apart := false }
def FnExactIsBalancedPlanSaid : Prop := fnExactIsBalancedPlanRow.holds Try.pinned (OpenSpec.ofChange fnExactIsBalancedPlanSpec)

/-- ITS FALSE NEIGHBOUR: 'it returns false'. Refute it at one input. -/
def fnExactIsBalancedPlanWrong : ChangeSpec := { name := "fnExactIsBalancedPlan", fn := fun _ => fun
  | [d1, d2] => { results := [.lit (.bool false)], args := [d1, d2] }
  | _ => none }
def FnExactIsBalancedPlanWrongFalsely : Prop := fnExactIsBalancedPlanRow.holds Try.pinned (OpenSpec.ofChange fnExactIsBalancedPlanWrong)

/-- 'laws.FnExactFollowsIn': WHATEVER THE INPUT: true; the input reads as it did. -/
def fnExactFollowsInSpec : ChangeSpec := { name := "fnExactFollowsIn", fn := fun _ => fun
  | [d1, d2, d3, d4] => { results := [.lit (.bool true)], args := [d1, d2, d3, d4] }
  | _ => none }
def fnExactFollowsInRow : OpenClaim := { program := "ythbpeolcmlkneaa", sum := "5cf20807d102754607561cbd4a6b84549830981612ae91f03e28be66eadd63a8", func := "loop.example/g03205/laws.FnExactFollowsIn", spec := "fnExactFollowsIn", apart := false }
def FnExactFollowsInSaid : Prop := fnExactFollowsInRow.holds Try.pinned (OpenSpec.ofChange fnExactFollowsInSpec)

/-- ITS FALSE NEIGHBOUR: 'it returns false'. Refute it at one input. -/
def fnExactFollowsInWrong : ChangeSpec := { name := "fnExactFollowsIn", fn := fun _ => fun
  | [d1, d2, d3, d4] => { results := [.lit (.bool false)], args := [d1, d2, d3, d4] }
  | _ => none }
def FnExactFollowsInWrongFalsely : Prop := fnExactFollowsInRow.holds Try.pinned (OpenSpec.ofChange fnExactFollowsInWrong)

/-- 'laws.FnExactLeastCarry': WHATEVER THE INPUT: true; the input reads as it did. -/
def fnExactLeastCarrySpec : ChangeSpec := { name := "fnExactLeastCarry", fn := fun _ => fun
  | [d1, d2] => { results := [.lit (.bool true)], args := [d1, d2] }
  | _ => none }
def fnExactLeastCarryRow : OpenClaim := { program := "ythbpeolcmlkneaa", sum := "5cf20807d102754607561cbd4a6b84549830981612ae91f03e28be66eadd63a8", func := "loop.example/g03205/laws.FnExactLeastCarry", spec := "fnExactLeastCarry", apart := false }
def FnExactLeastCarrySaid : Prop := fnExactLeastCarryRow.holds Try.pinned (OpenSpec.ofChange fnExactLeastCarrySpec)

/-- ITS FALSE NEIGHBOUR: 'it returns false'. Refute it at one input. -/
def fnExactLeastCarryWrong : ChangeSpec := { name := "fnExactLeastCarry", fn := fun _ => fun
  | [d1, d2] => { results := [.lit (.bool false)], args := [d1, d2] }
  | _ => none }
def FnExactLeastCarryWrongFalsely : Prop := fnExactLeastCarryRow.holds Try.pinned (OpenSpec.ofChange fnExactLeastCarryWrong)

/-- 'laws.FnExactPatternsOf': WHATEVER THE INPUT: true; the input reads as it did. -/
def fnExactPatternsOfSpec : ChangeSpec := { name := "fnExactPatternsOf", fn := fun _ => fun
  | [d1, d2] => { results := [.lit (.bool true)], args := [d1, d2] }
  | _ => none }
def fnExactPatternsOfRow : OpenClaim := { program := "ythbpeolcmlkneaa", sum := "5cf20807d102754607561cbd4a6b84549830981612ae91f03e28be66eadd63a8", func := "loop.example/g03205/laws.FnExactPatternsOf", spec := "fnExactPatternsOf", apart := false }
def FnExactPatternsOfSaid : Prop := fnExactPatternsOfRow.holds Try.pinned (OpenSpec.ofChange fnExactPatternsOfSpec)

/-- ITS FALSE NEIGHBOUR: 'it returns false'. Refute it at one input. -/
def fnExactPatternsOfWrong : ChangeSpec := { name := "fnExactPatternsOf", fn := fun _ => fun
  | [d1, d2] => { results := [.lit (.bool false)], args := [d1, d2] }
  | _ => none }
def FnExactPatternsOfWrongFalsely : Prop := fnExactPatternsOfRow.holds Try.pinned (OpenSpec.ofChange fnExactPatternsOfWrong)

/-- 'laws.FnCarry': WHATEVER THE INPUT: true; the input reads as it did. -/
def fnCarrySpec : ChangeSpec := { name := "fnCarry", fn := fun _ => fun
  | [d] => { results := [.lit (.bool true)], args := [d] }
  | _ => none }
def fnCarryRow : OpenClaim := { program := "ythbpeolcmlkneaa", sum := "5cf20807d102754607561cbd4a6b84549830981612ae91f03e28be66eadd63a8", func := "loop.example/g03205/laws.FnCarry", spec := "fnCarry", apart := false }
def FnCarrySaid : Prop := fnCarryRow.holds Try.pinned (OpenSpec.ofChange fnCarrySpec)

/-- ITS FALSE NEIGHBOUR: 'it returns false'. Refute it at one input. -/
def fnCarryWrong : ChangeSpec := { name := "fnCarry", fn := fun _ => fun
  | [d] => { results := [.lit (.bool false)], args := [d] }
  | _ => none }
def FnCarryWrongFalsely : Prop := fnCarryRow.holds Try.pinned (OpenSpec.ofChange fnCarryWrong)

/- THE SECOND FORM. 'bulk': how many values and letters a reading holds, each counted each time it is reached (what is shared counts as often as it is met; a slice's spare places count too). A statement '..UptoSaid' is the law's where the arguments, and the package variables that the reading takes, are together of bulk at most 1048576: NARROWER than '..Said'. Prove '..Said' where nothing that the law and all that it calls make is longer than what came in: it says more and counts as full. Else prove '..UptoSaid'. A law counts once. -/
mutual
def uptoBulk {H : Type} : DataW H → Nat
  | .lit (.string bytes) => bytes.length + 1
  | .lit _ => 1
  | .nil => 1
  | .ptr d => uptoBulk d + 1
  | .slice elems spare => uptoBulkAll elems + uptoBulkAll spare + 1
  | .agg parts => uptoBulkAll parts + 1
  | .iface _ d => uptoBulk d + 1
  | .map entries => uptoBulkEntries entries + 1
  | .held _ => 1
def uptoBulkAll {H : Type} : List (DataW H) → Nat
  | [] => 0
  | d :: r => uptoBulk d + uptoBulkAll r
def uptoBulkEntries {H : Type} : List (Lit × DataW H) → Nat
  | [] => 0
  | x :: r => uptoBulkEntry x + uptoBulkEntries r
def uptoBulkEntry {H : Type} : Lit × DataW H → Nat
  | (.string bytes, d) => bytes.length + uptoBulk d + 1
  | (_, d) => uptoBulk d + 1
 end
def uptoSmall : (H : Type) → List (DataW H) → Bool := fun _ ds => decide (uptoBulkAll ds ≤ 1048576)
def OpenSpec.upto (s : _root_.Go.ChangeSpec) : _root_.Go.OpenSpec := { _root_.Go.OpenSpec.ofChange s with cond := some uptoSmall }

/-- 'laws.FnExactCarryTable', WHERE WHAT IT READS IS OF BULK AT MOST 1048576: true; the input reads as it did. -/
def fnExactCarryTableUptoRow : OpenClaim := { program := "ythbpeolcmlkneaa", sum := "5cf20807d102754607561cbd4a6b84549830981612ae91f03e28be66eadd63a8", func := "loop.example/g03205/laws.FnExactCarryTable", spec := "fnExactCarryTable", apart := false, narrowed := true }
def FnExactCarryTableUptoSaid : Prop := fnExactCarryTableUptoRow.holds Try.pinned (OpenSpec.upto fnExactCarryTableSpec)

/-- 'laws.FnExactCarryValue', WHERE WHAT IT READS IS OF BULK AT MOST 1048576: true; the input reads as it did. -/
def fnExactCarryValueUptoRow : OpenClaim := { program := "ythbpeolcmlkneaa", sum := "5cf20807d102754607561cbd4a6b84549830981612ae91f03e28be66eadd63a8", func := "loop.example/g03205/laws.FnExactCarryValue", spec := "fnExactCarryValue", apart := false, narrowed := true }
def FnExactCarryValueUptoSaid : Prop := fnExactCarryValueUptoRow.holds Try.pinned (OpenSpec.upto fnExactCarryValueSpec)

/-- 'laws.FnExactIsBalancedPlan', WHERE WHAT IT READS IS OF BULK AT MOST 1048576: true; the input reads as it did. -/
def fnExactIsBalancedPlanUptoRow : OpenClaim := { program := "ythbpeolcmlkneaa", sum := "5cf20807d102754607561cbd4a6b84549830981612ae91f03e28be66eadd63a8", func := "loop.example/g03205/laws.FnExactIsBalancedPlan", spec := "fnExactIsBalancedPlan", apart := false, narrowed := true }
def FnExactIsBalancedPlanUptoSaid : Prop := fnExactIsBalancedPlanUptoRow.holds Try.pinned (OpenSpec.upto fnExactIsBalancedPlanSpec)

/-- 'laws.FnExactFollowsIn', WHERE WHAT IT READS IS OF BULK AT MOST 1048576: true; the input reads as it did. -/
def fnExactFollowsInUptoRow : OpenClaim := { program := "ythbpeolcmlkneaa", sum := "5cf20807d102754607561cbd4a6b84549830981612ae91f03e28be66eadd63a8", func := "loop.example/g03205/laws.FnExactFollowsIn", spec := "fnExactFollowsIn", apart := false, narrowed := true }
def FnExactFollowsInUptoSaid : Prop := fnExactFollowsInUptoRow.holds Try.pinned (OpenSpec.upto fnExactFollowsInSpec)

/-- 'laws.FnExactLeastCarry', WHERE WHAT IT READS IS OF BULK AT MOST 1048576: true; the input reads as it did. -/
def fnExactLeastCarryUptoRow : OpenClaim := { program := "ythbpeolcmlkneaa", sum := "5cf20807d102754607561cbd4a6b84549830981612ae91f03e28be66eadd63a8", func := "loop.example/g03205/laws.FnExactLeastCarry", spec := "fnExactLeastCarry", apart := false, narrowed := true }
def FnExactLeastCarryUptoSaid : Prop := fnExactLeastCarryUptoRow.holds Try.pinned (OpenSpec.upto fnExactLeastCarrySpec)

/-- 'laws.FnExactPatternsOf', WHERE WHAT IT READS IS OF BULK AT MOST 1048576: true; the input reads as it did. -/
def fnExactPatternsOfUptoRow : OpenClaim := { program := "ythbpeolcmlkneaa", sum := "5cf20807d102754607561cbd4a6b84549830981612ae91f03e28be66eadd63a8", func := "loop.example/g03205/laws.FnExactPatternsOf", spec := "fnExactPatternsOf", apart := false, narrowed := true }
def FnExactPatternsOfUptoSaid : Prop := fnExactPatternsOfUptoRow.holds Try.pinned (OpenSpec.upto fnExactPatternsOfSpec)

/-- 'laws.FnCarry', WHERE WHAT IT READS IS OF BULK AT MOST 1048576: true; the input reads as it did. -/
def fnCarryUptoRow : OpenClaim := { program := "ythbpeolcmlkneaa", sum := "5cf20807d102754607561cbd4a6b84549830981612ae91f03e28be66eadd63a8", func := "loop.example/g03205/laws.FnCarry", spec := "fnCarry", apart := false, narrowed := true }
def FnCarryUptoSaid : Prop := fnCarryUptoRow.holds Try.pinned (OpenSpec.upto fnCarrySpec)

end Rows
end Go.Proofs.Ythbpeolcmlkneaa
