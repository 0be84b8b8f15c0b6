/-
  No cell of these rows narrows 'for every input' (looked for: loops, veiled, ifaces, maps, wideKeys, modest, calm, conditions, laid).
  DERIVED. THE GIVEN ROWS OF THIS SEAT. 10 by the template 'for every input the law returns true; each argument reads behind the call as it read before'; 0 by the template 'total and deterministic' (their statements: YteefbnadjjcpkaaTotals.lean).
  GIVEN WITH THE SEED: the statements are not yours to turn. If you find one false, say at which input.
  Laid BY PROGRAM, IN A SANDBOX (cutbox-rows.mjs): the forced cells as the released guide's own fill.sh prints them over the translation 4b8a2eee5cc05e4d… (all of the seat's roots in one cut). By AI agents, Wed Nov 11 2026. No macro, syntax, notation, axiom, sorry.
-/
import Derived.Test.YteefbnadjjcpkaaChecked
import GoSem.Claim
import GoSem.ClaimJoined
import GoSem.ClaimMapViews
import Derived.JoinedTies
import Derived.KernelRfl
namespace Go.Proofs.Yteefbnadjjcpkaa
/- THE CELL 'sum', in the pinned program and in every row, IS THE sha256 OF THE DUMP (.gsa) THAT YteefbnadjjcpkaaProg.lean LOADS. Nothing in Lean hashes anything: it is a label: what it is worth is what the hold of that sum in a sandbox is worth. -/
noncomputable def Try.pinned : Pinned := { name := "yteefbnadjjcpkaa", sum := "4b8a2eee5cc05e4de9650a5be997108d3fdab51f0caca4975613a5683b28a213", checked := Try.checked }
namespace Rows
def none {H : Type} : Left H := { results := [], args := [] }

/-- 'laws.FnExactPatternOk': WHATEVER THE INPUT: true; the input reads as it did. -/
def fnExactPatternOkSpec : ChangeSpec := { name := "fnExactPatternOk", fn := fun _ => fun
  | [d] => { results := [.lit (.bool true)], args := [d] }
  | _ => none }
def fnExactPatternOkRow : OpenClaim := { program := "yteefbnadjjcpkaa", sum := "4b8a2eee5cc05e4de9650a5be997108d3fdab51f0caca4975613a5683b28a213", func := "loop.example/g03205/laws.FnExactPatternOk", spec := "fnExactPatternOk", inPlace := ["internal/bytealg.CountString", "internal/bytealg.IndexByteString", "internal/bytealg.IndexString"], named := ["internal/bytealg.MaxLen"], apart := false }
def FnExactPatternOkSaid : Prop := fnExactPatternOkRow.holds Try.pinned (OpenSpec.ofChange fnExactPatternOkSpec)

/-- ITS FALSE NEIGHBOUR: 'it returns false'. Refute it at one input. -/
def fnExactPatternOkWrong : ChangeSpec := { name := "fnExactPatternOk", fn := fun _ => fun
  | [d] => { results := [.lit (.bool false)], args := [d] }
  | _ => none }
def FnExactPatternOkWrongFalsely : Prop := fnExactPatternOkRow.holds Try.pinned (OpenSpec.ofChange fnExactPatternOkWrong)

/-- 'laws.FnExactCountPatternBreaks': WHATEVER THE INPUT: true; the input reads as it did. -/
def fnExactCountPatternBreaksSpec : ChangeSpec := { name := "fnExactCountPatternBreaks", fn := fun _ => fun
  | [d] => { results := [.lit (.bool true)], args := [d] }
  | _ => none }
def fnExactCountPatternBreaksRow : OpenClaim := { program := "yteefbnadjjcpkaa", sum := "4b8a2eee5cc05e4de9650a5be997108d3fdab51f0caca4975613a5683b28a213", func := "loop.example/g03205/laws.FnExactCountPatternBreaks", spec := "fnExactCountPatternBreaks", inPlace := ["internal/bytealg.CountString", "internal/bytealg.IndexByteString", "internal/bytealg.IndexString"], named := ["internal/bytealg.MaxLen"], apart := false }
def FnExactCountPatternBreaksSaid : Prop := fnExactCountPatternBreaksRow.holds Try.pinned (OpenSpec.ofChange fnExactCountPatternBreaksSpec)

/-- ITS FALSE NEIGHBOUR: 'it returns false'. Refute it at one input. -/
def fnExactCountPatternBreaksWrong : ChangeSpec := { name := "fnExactCountPatternBreaks", fn := fun _ => fun
  | [d] => { results := [.lit (.bool false)], args := [d] }
  | _ => none }
def FnExactCountPatternBreaksWrongFalsely : Prop := fnExactCountPatternBreaksRow.holds Try.pinned (OpenSpec.ofChange fnExactCountPatternBreaksWrong)

/-- 'laws.FnExactPatternsOk': WHATEVER THE INPUT: true; the input reads as it did. -/
def fnExactPatternsOkSpec : ChangeSpec := { name := "fnExactPatternsOk", fn := fun _ => fun
  | [d] => { results := [.lit (.bool true)], args := [d] }
  | _ => none }
def fnExactPatternsOkRow : OpenClaim := { program := "yteefbnadjjcpkaa", sum := "4b8a2eee5cc05e4de9650a5be997108d3fdab51f0caca4975613a5683b28a213", func := "loop.example/g03205/laws.FnExactPatternsOk", spec := "fnExactPatternsOk", inPlace := ["internal/bytealg.CountString", "internal/bytealg.IndexByteString", "internal/bytealg.IndexString"], unfollowed := true, recurses := true, named := ["internal/bytealg.MaxLen"], apart := false }
def FnExactPatternsOkSaid : Prop := fnExactPatternsOkRow.holds Try.pinned (OpenSpec.ofChange fnExactPatternsOkSpec)

/-- ITS FALSE NEIGHBOUR: 'it returns false'. Refute it at one input. -/
def fnExactPatternsOkWrong : ChangeSpec := { name := "fnExactPatternsOk", fn := fun _ => fun
  | [d] => { results := [.lit (.bool false)], args := [d] }
  | _ => none }
def FnExactPatternsOkWrongFalsely : Prop := fnExactPatternsOkRow.holds Try.pinned (OpenSpec.ofChange fnExactPatternsOkWrong)

/-- 'laws.FnExactAreDifferent': WHATEVER THE INPUT: true; the input reads as it did. -/
def fnExactAreDifferentSpec : ChangeSpec := { name := "fnExactAreDifferent", fn := fun _ => fun
  | [d] => { results := [.lit (.bool true)], args := [d] }
  | _ => none }
def fnExactAreDifferentRow : OpenClaim := { program := "yteefbnadjjcpkaa", sum := "4b8a2eee5cc05e4de9650a5be997108d3fdab51f0caca4975613a5683b28a213", func := "loop.example/g03205/laws.FnExactAreDifferent", spec := "fnExactAreDifferent", inPlace := ["internal/bytealg.CountString", "internal/bytealg.IndexByteString", "internal/bytealg.IndexString"], unfollowed := true, recurses := true, named := ["internal/bytealg.MaxLen"], apart := false }
def FnExactAreDifferentSaid : Prop := fnExactAreDifferentRow.holds Try.pinned (OpenSpec.ofChange fnExactAreDifferentSpec)

/-- ITS FALSE NEIGHBOUR: 'it returns false'. Refute it at one input. -/
def fnExactAreDifferentWrong : ChangeSpec := { name := "fnExactAreDifferent", fn := fun _ => fun
  | [d] => { results := [.lit (.bool false)], args := [d] }
  | _ => none }
def FnExactAreDifferentWrongFalsely : Prop := fnExactAreDifferentRow.holds Try.pinned (OpenSpec.ofChange fnExactAreDifferentWrong)

/-- 'laws.FnExactIsEven': WHATEVER THE INPUT: true; the input reads as it did. -/
def fnExactIsEvenSpec : ChangeSpec := { name := "fnExactIsEven", fn := fun _ => fun
  | [d] => { results := [.lit (.bool true)], args := [d] }
  | _ => none }
def fnExactIsEvenRow : OpenClaim := { program := "yteefbnadjjcpkaa", sum := "4b8a2eee5cc05e4de9650a5be997108d3fdab51f0caca4975613a5683b28a213", func := "loop.example/g03205/laws.FnExactIsEven", spec := "fnExactIsEven", inPlace := ["internal/bytealg.CountString", "internal/bytealg.IndexByteString", "internal/bytealg.IndexString"], unfollowed := true, recurses := true, named := ["internal/bytealg.MaxLen"], apart := false }
def FnExactIsEvenSaid : Prop := fnExactIsEvenRow.holds Try.pinned (OpenSpec.ofChange fnExactIsEvenSpec)

/-- ITS FALSE NEIGHBOUR: 'it returns false'. Refute it at one input. -/
def fnExactIsEvenWrong : ChangeSpec := { name := "fnExactIsEven", fn := fun _ => fun
  | [d] => { results := [.lit (.bool false)], args := [d] }
  | _ => none }
def FnExactIsEvenWrongFalsely : Prop := fnExactIsEvenRow.holds Try.pinned (OpenSpec.ofChange fnExactIsEvenWrong)

/-- 'laws.FnExactCanMeetAt': WHATEVER THE INPUT: true; the input reads as it did. -/
def fnExactCanMeetAtSpec : ChangeSpec := { name := "fnExactCanMeetAt", fn := fun _ => fun
  | [d1, d2, d3] => { results := [.lit (.bool true)], args := [d1, d2, d3] }
  | _ => none }
def fnExactCanMeetAtRow : OpenClaim := { program := "yteefbnadjjcpkaa", sum := "4b8a2eee5cc05e4de9650a5be997108d3fdab51f0caca4975613a5683b28a213", func := "loop.example/g03205/laws.FnExactCanMeetAt", spec := "fnExactCanMeetAt", inPlace := ["internal/bytealg.CountString", "internal/bytealg.IndexByteString", "internal/bytealg.IndexString"], unfollowed := true, recurses := true, named := ["internal/bytealg.MaxLen"], apart := false }
def FnExactCanMeetAtSaid : Prop := fnExactCanMeetAtRow.holds Try.pinned (OpenSpec.ofChange fnExactCanMeetAtSpec)

/-- ITS FALSE NEIGHBOUR: 'it returns false'. Refute it at one input. -/
def fnExactCanMeetAtWrong : ChangeSpec := { name := "fnExactCanMeetAt", fn := fun _ => fun
  | [d1, d2, d3] => { results := [.lit (.bool false)], args := [d1, d2, d3] }
  | _ => none }
def FnExactCanMeetAtWrongFalsely : Prop := fnExactCanMeetAtRow.holds Try.pinned (OpenSpec.ofChange fnExactCanMeetAtWrong)

/-- 'laws.FnExactMostMeetings': WHATEVER THE INPUT: true; the input reads as it did. -/
def fnExactMostMeetingsSpec : ChangeSpec := { name := "fnExactMostMeetings", fn := fun _ => fun
  | [d1, d2] => { results := [.lit (.bool true)], args := [d1, d2] }
  | _ => none }
def fnExactMostMeetingsRow : OpenClaim := { program := "yteefbnadjjcpkaa", sum := "4b8a2eee5cc05e4de9650a5be997108d3fdab51f0caca4975613a5683b28a213", func := "loop.example/g03205/laws.FnExactMostMeetings", spec := "fnExactMostMeetings", inPlace := ["internal/bytealg.CountString", "internal/bytealg.IndexByteString", "internal/bytealg.IndexString"], unfollowed := true, recurses := true, named := ["internal/bytealg.MaxLen"], apart := false }
def FnExactMostMeetingsSaid : Prop := fnExactMostMeetingsRow.holds Try.pinned (OpenSpec.ofChange fnExactMostMeetingsSpec)

/-- ITS FALSE NEIGHBOUR: 'it returns false'. Refute it at one input. -/
def fnExactMostMeetingsWrong : ChangeSpec := { name := "fnExactMostMeetings", fn := fun _ => fun
  | [d1, d2] => { results := [.lit (.bool false)], args := [d1, d2] }
  | _ => none }
def FnExactMostMeetingsWrongFalsely : Prop := fnExactMostMeetingsRow.holds Try.pinned (OpenSpec.ofChange fnExactMostMeetingsWrong)

/-- 'laws.FnExactLackingSet': WHATEVER THE INPUT: true; the input reads as it did. -/
def fnExactLackingSetSpec : ChangeSpec := { name := "fnExactLackingSet", fn := fun _ => fun
  | [d] => { results := [.lit (.bool true)], args := [d] }
  | _ => none }
def fnExactLackingSetRow : OpenClaim := { program := "yteefbnadjjcpkaa", sum := "4b8a2eee5cc05e4de9650a5be997108d3fdab51f0caca4975613a5683b28a213", func := "loop.example/g03205/laws.FnExactLackingSet", spec := "fnExactLackingSet", inPlace := ["internal/bytealg.CountString", "internal/bytealg.IndexByteString", "internal/bytealg.IndexString"], unfollowed := true, recurses := true, named := ["internal/bytealg.MaxLen"], apart := false }
def FnExactLackingSetSaid : Prop := fnExactLackingSetRow.holds Try.pinned (OpenSpec.ofChange fnExactLackingSetSpec)

/-- ITS FALSE NEIGHBOUR: 'it returns false'. Refute it at one input. -/
def fnExactLackingSetWrong : ChangeSpec := { name := "fnExactLackingSet", fn := fun _ => fun
  | [d] => { results := [.lit (.bool false)], args := [d] }
  | _ => none }
def FnExactLackingSetWrongFalsely : Prop := fnExactLackingSetRow.holds Try.pinned (OpenSpec.ofChange fnExactLackingSetWrong)

/-- 'laws.FnExactOtherPattern': WHATEVER THE INPUT: true; the input reads as it did. -/
def fnExactOtherPatternSpec : ChangeSpec := { name := "fnExactOtherPattern", fn := fun _ => fun
  | [d] => { results := [.lit (.bool true)], args := [d] }
  | _ => none }
def fnExactOtherPatternRow : OpenClaim := { program := "yteefbnadjjcpkaa", sum := "4b8a2eee5cc05e4de9650a5be997108d3fdab51f0caca4975613a5683b28a213", func := "loop.example/g03205/laws.FnExactOtherPattern", spec := "fnExactOtherPattern", inPlace := ["internal/bytealg.CountString", "internal/bytealg.IndexByteString", "internal/bytealg.IndexString", "sync/atomic.LoadUint32", "(*internal/sync.Mutex).Lock", "internal/race.Disable", "sync/atomic.CompareAndSwapInt32", "internal/race.Enable", "internal/race.Acquire", "(*internal/sync.Mutex).lockSlow", "internal/sync.runtime_canSpin", "internal/sync.runtime_doSpin", "internal/sync.throw", "internal/sync.runtime_nanotime", "internal/sync.runtime_SemacquireMutex", "sync/atomic.AddInt32", "(*internal/sync.Mutex).Unlock", "internal/race.ReleaseMerge", "(*internal/sync.Mutex).unlockSlow", "internal/sync.fatal", "internal/sync.runtime_Semrelease", "sync/atomic.StoreUint32"], unfollowed := true, recurses := true, named := ["internal/bytealg.MaxLen"], apart := false }
def FnExactOtherPatternSaid : Prop := fnExactOtherPatternRow.holds Try.pinned (OpenSpec.ofChange fnExactOtherPatternSpec)

/-- ITS FALSE NEIGHBOUR: 'it returns false'. Refute it at one input. -/
def fnExactOtherPatternWrong : ChangeSpec := { name := "fnExactOtherPattern", fn := fun _ => fun
  | [d] => { results := [.lit (.bool false)], args := [d] }
  | _ => none }
def FnExactOtherPatternWrongFalsely : Prop := fnExactOtherPatternRow.holds Try.pinned (OpenSpec.ofChange fnExactOtherPatternWrong)

/-- 'laws.FnExactPatternWithBreak': WHATEVER THE INPUT: true; the input reads as it did. -/
def fnExactPatternWithBreakSpec : ChangeSpec := { name := "fnExactPatternWithBreak", fn := fun _ => fun
  | [d1, d2, d3] => { results := [.lit (.bool true)], args := [d1, d2, d3] }
  | _ => none }
def fnExactPatternWithBreakRow : OpenClaim := { program := "yteefbnadjjcpkaa", sum := "4b8a2eee5cc05e4de9650a5be997108d3fdab51f0caca4975613a5683b28a213", func := "loop.example/g03205/laws.FnExactPatternWithBreak", spec := "fnExactPatternWithBreak", inPlace := ["internal/bytealg.CountString", "internal/bytealg.IndexByteString", "internal/bytealg.IndexString", "sync/atomic.LoadUint32", "(*internal/sync.Mutex).Lock", "internal/race.Disable", "sync/atomic.CompareAndSwapInt32", "internal/race.Enable", "internal/race.Acquire", "(*internal/sync.Mutex).lockSlow", "internal/sync.runtime_canSpin", "internal/sync.runtime_doSpin", "internal/sync.throw", "internal/sync.runtime_nanotime", "internal/sync.runtime_SemacquireMutex", "sync/atomic.AddInt32", "(*internal/sync.Mutex).Unlock", "internal/race.ReleaseMerge", "(*internal/sync.Mutex).unlockSlow", "internal/sync.fatal", "internal/sync.runtime_Semrelease", "sync/atomic.StoreUint32"], unfollowed := true, recurses := true, named := ["internal/bytealg.MaxLen"], apart := false }
def FnExactPatternWithBreakSaid : Prop := fnExactPatternWithBreakRow.holds Try.pinned (OpenSpec.ofChange fnExactPatternWithBreakSpec)

/-- ITS FALSE NEIGHBOUR: 'it returns false'. Refute it at one input. -/
def fnExactPatternWithBreakWrong : ChangeSpec := { name := "fnExactPatternWithBreak", fn := fun _ => fun
  | [d1, d2, d3] => { results := [.lit (.bool false)], args := [d1, d2, d3] }
  | _ => none }
def FnExactPatternWithBreakWrongFalsely : Prop := fnExactPatternWithBreakRow.holds Try.pinned (OpenSpec.ofChange fnExactPatternWithBreakWrong)

/- THE SECOND FORM. 'bulk': how many values and letters a reading holds, each counted each time it is reached (what is shared counts as often as it is met; a slice's spare places count too). A statement '..UptoSaid' is the law's where the arguments, and the package variables that the reading takes, are together of bulk at most 1048576: NARROWER than '..Said'. Prove '..Said' where nothing that the law and all that it calls make is longer than what came in: it says more and counts as full. Else prove '..UptoSaid'. A law counts once. -/
mutual
def uptoBulk {H : Type} : DataW H → Nat
  | .lit (.string bytes) => bytes.length + 1
  | .lit _ => 1
  | .nil => 1
  | .ptr d => uptoBulk d + 1
  | .slice elems spare => uptoBulkAll elems + uptoBulkAll spare + 1
  | .agg parts => uptoBulkAll parts + 1
  | .iface _ d => uptoBulk d + 1
  | .map entries => uptoBulkEntries entries + 1
  | .held _ => 1
def uptoBulkAll {H : Type} : List (DataW H) → Nat
  | [] => 0
  | d :: r => uptoBulk d + uptoBulkAll r
def uptoBulkEntries {H : Type} : List (Lit × DataW H) → Nat
  | [] => 0
  | x :: r => uptoBulkEntry x + uptoBulkEntries r
def uptoBulkEntry {H : Type} : Lit × DataW H → Nat
  | (.string bytes, d) => bytes.length + uptoBulk d + 1
  | (_, d) => uptoBulk d + 1
 end
def uptoSmall : (H : Type) → List (DataW H) → Bool := fun _ ds => decide (uptoBulkAll ds ≤ 1048576)
def OpenSpec.upto (s : _root_.Go.ChangeSpec) : _root_.Go.OpenSpec := { _root_.Go.OpenSpec.ofChange s with cond := some uptoSmall }

/-- 'laws.FnExactPatternOk', WHERE WHAT IT READS IS OF BULK AT MOST 1048576: true; the input reads as it did. -/
def fnExactPatternOkUptoRow : OpenClaim := { program := "yteefbnadjjcpkaa", sum := "4b8a2eee5cc05e4de9650a5be997108d3fdab51f0caca4975613a5683b28a213", func := "loop.example/g03205/laws.FnExactPatternOk", spec := "fnExactPatternOk", inPlace := ["internal/bytealg.CountString", "internal/bytealg.IndexByteString", "internal/bytealg.IndexString"], named := ["internal/bytealg.MaxLen"], apart := false, narrowed := true }
def FnExactPatternOkUptoSaid : Prop := fnExactPatternOkUptoRow.holds Try.pinned (OpenSpec.upto fnExactPatternOkSpec)

/-- 'laws.FnExactCountPatternBreaks', WHERE WHAT IT READS IS OF BULK AT MOST 1048576: true; the input reads as it did. -/
def fnExactCountPatternBreaksUptoRow : OpenClaim := { program := "yteefbnadjjcpkaa", sum := "4b8a2eee5cc05e4de9650a5be997108d3fdab51f0caca4975613a5683b28a213", func := "loop.example/g03205/laws.FnExactCountPatternBreaks", spec := "fnExactCountPatternBreaks", inPlace := ["internal/bytealg.CountString", "internal/bytealg.IndexByteString", "internal/bytealg.IndexString"], named := ["internal/bytealg.MaxLen"], apart := false, narrowed := true }
def FnExactCountPatternBreaksUptoSaid : Prop := fnExactCountPatternBreaksUptoRow.holds Try.pinned (OpenSpec.upto fnExactCountPatternBreaksSpec)

/-- 'laws.FnExactPatternsOk', WHERE WHAT IT READS IS OF BULK AT MOST 1048576: true; the input reads as it did. -/
def fnExactPatternsOkUptoRow : OpenClaim := { program := "yteefbnadjjcpkaa", sum := "4b8a2eee5cc05e4de9650a5be997108d3fdab51f0caca4975613a5683b28a213", func := "loop.example/g03205/laws.FnExactPatternsOk", spec := "fnExactPatternsOk", inPlace := ["internal/bytealg.CountString", "internal/bytealg.IndexByteString", "internal/bytealg.IndexString"], unfollowed := true, recurses := true, named := ["internal/bytealg.MaxLen"], apart := false, narrowed := true }
def FnExactPatternsOkUptoSaid : Prop := fnExactPatternsOkUptoRow.holds Try.pinned (OpenSpec.upto fnExactPatternsOkSpec)

/-- 'laws.FnExactAreDifferent', WHERE WHAT IT READS IS OF BULK AT MOST 1048576: true; the input reads as it did. -/
def fnExactAreDifferentUptoRow : OpenClaim := { program := "yteefbnadjjcpkaa", sum := "4b8a2eee5cc05e4de9650a5be997108d3fdab51f0caca4975613a5683b28a213", func := "loop.example/g03205/laws.FnExactAreDifferent", spec := "fnExactAreDifferent", inPlace := ["internal/bytealg.CountString", "internal/bytealg.IndexByteString", "internal/bytealg.IndexString"], unfollowed := true, recurses := true, named := ["internal/bytealg.MaxLen"], apart := false, narrowed := true }
def FnExactAreDifferentUptoSaid : Prop := fnExactAreDifferentUptoRow.holds Try.pinned (OpenSpec.upto fnExactAreDifferentSpec)

/-- 'laws.FnExactIsEven', WHERE WHAT IT READS IS OF BULK AT MOST 1048576: true; the input reads as it did. -/
def fnExactIsEvenUptoRow : OpenClaim := { program := "yteefbnadjjcpkaa", sum := "4b8a2eee5cc05e4de9650a5be997108d3fdab51f0caca4975613a5683b28a213", func := "loop.example/g03205/laws.FnExactIsEven", spec := "fnExactIsEven", inPlace := ["internal/bytealg.CountString", "internal/bytealg.IndexByteString", "internal/bytealg.IndexString"], unfollowed := true, recurses := true, named := ["internal/bytealg.MaxLen"], apart := false, narrowed := true }
def FnExactIsEvenUptoSaid : Prop := fnExactIsEvenUptoRow.holds Try.pinned (OpenSpec.upto fnExactIsEvenSpec)

/-- 'laws.FnExactCanMeetAt', WHERE WHAT IT READS IS OF BULK AT MOST 1048576: true; the input reads as it did. -/
def fnExactCanMeetAtUptoRow : OpenClaim := { program := "yteefbnadjjcpkaa", sum := "4b8a2eee5cc05e4de9650a5be997108d3fdab51f0caca4975613a5683b28a213", func := "loop.example/g03205/laws.FnExactCanMeetAt", spec := "fnExactCanMeetAt", inPlace := ["internal/bytealg.CountString", "internal/bytealg.IndexByteString", "internal/bytealg.IndexString"], unfollowed := true, recurses := true, named := ["internal/bytealg.MaxLen"], apart := false, narrowed := true }
def FnExactCanMeetAtUptoSaid : Prop := fnExactCanMeetAtUptoRow.holds Try.pinned (OpenSpec.upto fnExactCanMeetAtSpec)

/-- 'laws.FnExactMostMeetings', WHERE WHAT IT READS IS OF BULK AT MOST 1048576: true; the input reads as it did. -/
def fnExactMostMeetingsUptoRow : OpenClaim := { program := "yteefbnadjjcpkaa", sum := "4b8a2eee5cc05e4de9650a5be997108d3fdab51f0caca4975613a5683b28a213", func := "loop.example/g03205/laws.FnExactMostMeetings", spec := "fnExactMostMeetings", inPlace := ["internal/bytealg.CountString", "internal/bytealg.IndexByteString", "internal/bytealg.IndexString"], unfollowed := true, recurses := true, named := ["internal/bytealg.MaxLen"], apart := false, narrowed := true }
def FnExactMostMeetingsUptoSaid : Prop := fnExactMostMeetingsUptoRow.holds Try.pinned (OpenSpec.upto fnExactMostMeetingsSpec)

/-- 'laws.FnExactLackingSet', WHERE WHAT IT READS IS OF BULK AT MOST 1048576: true; the input reads as it did. -/
def fnExactLackingSetUptoRow : OpenClaim := { program := "yteefbnadjjcpkaa", sum := "4b8a2eee5cc05e4de9650a5be997108d3fdab51f0caca4975613a5683b28a213", func := "loop.example/g03205/laws.FnExactLackingSet", spec := "fnExactLackingSet", inPlace := ["internal/bytealg.CountString", "internal/bytealg.IndexByteString", "internal/bytealg.IndexString"], unfollowed := true, recurses := true, named := ["internal/bytealg.MaxLen"], apart := false, narrowed := true }
def FnExactLackingSetUptoSaid : Prop := fnExactLackingSetUptoRow.holds Try.pinned (OpenSpec.upto fnExactLackingSetSpec)

/-- 'laws.FnExactOtherPattern', WHERE WHAT IT READS IS OF BULK AT MOST 1048576: true; the input reads as it did. -/
def fnExactOtherPatternUptoRow : OpenClaim := { program := "yteefbnadjjcpkaa", sum := "4b8a2eee5cc05e4de9650a5be997108d3fdab51f0caca4975613a5683b28a213", func := "loop.example/g03205/laws.FnExactOtherPattern", spec := "fnExactOtherPattern", inPlace := ["internal/bytealg.CountString", "internal/bytealg.IndexByteString", "internal/bytealg.IndexString", "sync/atomic.LoadUint32", "(*internal/sync.Mutex).Lock", "internal/race.Disable", "sync/atomic.CompareAndSwapInt32", "internal/race.Enable", "internal/race.Acquire", "(*internal/sync.Mutex).lockSlow", "internal/sync.runtime_canSpin", "internal/sync.runtime_doSpin", "internal/sync.throw", "internal/sync.runtime_nanotime", "internal/sync.runtime_SemacquireMutex", "sync/atomic.AddInt32", "(*internal/sync.Mutex).Unlock", "internal/race.ReleaseMerge", "(*internal/sync.Mutex).unlockSlow", "internal/sync.fatal", "internal/sync.runtime_Semrelease", "sync/atomic.StoreUint32"], unfollowed := true, recurses := true, named := ["internal/bytealg.MaxLen"], apart := false, narrowed := true }
def FnExactOtherPatternUptoSaid : Prop := fnExactOtherPatternUptoRow.holds Try.pinned (OpenSpec.upto fnExactOtherPatternSpec)

/-- 'laws.FnExactPatternWithBreak', WHERE WHAT IT READS IS OF BULK AT MOST 1048576: true; the input reads as it did. -/
def fnExactPatternWithBreakUptoRow : OpenClaim := { program := "yteefbnadjjcpkaa", sum := "4b8a2eee5cc05e4de9650a5be997108d3fdab51f0caca4975613a5683b28a213", func := "loop.example/g03205/laws.FnExactPatternWithBreak", spec := "fnExactPatternWithBreak", inPlace := ["internal/bytealg.CountString", "internal/bytealg.IndexByteString", "internal/bytealg.IndexString", "sync/atomic.LoadUint32", "(*internal/sync.Mutex).Lock", "internal/race.Disable", "sync/atomic.CompareAndSwapInt32", "internal/race.Enable", "internal/race.Acquire", "(*internal/sync.Mutex).lockSlow", "internal/sync.runtime_canSpin", "internal/sync.runtime_doSpin", "internal/sync.throw", "internal/sync.runtime_nanotime", "internal/sync.runtime_SemacquireMutex", "sync/atomic.AddInt32", "(*internal/sync.Mutex).Unlock", "internal/race.ReleaseMerge", "(*internal/sync.Mutex).unlockSlow", "internal/sync.fatal", "internal/sync.runtime_Semrelease", "sync/atomic.StoreUint32"], unfollowed := true, recurses := true, named := ["internal/bytealg.MaxLen"], apart := false, narrowed := true }
def FnExactPatternWithBreakUptoSaid : Prop := fnExactPatternWithBreakUptoRow.holds Try.pinned (OpenSpec.upto fnExactPatternWithBreakSpec)

end Rows
end Go.Proofs.Yteefbnadjjcpkaa
