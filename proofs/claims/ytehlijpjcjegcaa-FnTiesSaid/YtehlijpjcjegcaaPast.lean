/- A region that draws its order, reads, and calls functions that make new memory and leave the old as it was: one walk in the order of the text; no program in sight. -/
import Derived.Test.YtehlijpjcjegcaaBase
namespace Go.Proofs.Ytehlijpjcjegcaa
open Go.RowKit

/-- A later world: what was there stays. -/
structure Past (w : World) where
  now : World
  below : Below w.heap.size w now
instance Past.nonempty (w : World) : Nonempty (Past w) := ⟨⟨w, Below.refl _ _⟩⟩
theorem Past.cell {w : World} {p : Addr} {v : Value} (h : w.cell? p = some v) (x : Past w) : x.now.cell? p = some v := keep_of_below x.below _ _ h
theorem Past.keep {w : World} (x : Past w) : Keep w x.now := keep_of_below x.below
theorem Past.drewN (w : World) (n : Nat) : ∃ y : Past w, w.drewN n = y.now := ⟨⟨w.drewN n, below_drewN _ _ _⟩, rfl⟩
theorem wp_region_past {P : Program} {id : Nat} {Q : Exit → Act → World → Prop} {a : Act} {w : World} {l : List Oper} (hm : P.follows .mixedOrders = true) (hB : Region.lexB .any l.toArray = true)
    (h : wpQuiet P l.toArray (fun W => ∃ x : Past w, W = x.now) (fun a' => ∀ W, (∃ x : Past w, W = x.now) → Q .normal a' W) l a) : (Code.region id l.toArray true).wp P Q a w :=
  wp_region_quiet (C := fun W => ∃ x : Past w, W = x.now) hm hB (Past.drewN w 1) (by simpa using h)
theorem past_gives {P : Program} {f : FuncId} {args : Array Value} {w : World} {v : Value} {x : Past w} (h : Calls P f args x.now (Gives x.now v)) :
    Calls P f args x.now fun e w'' => e = .returned v ∧ ∃ y : Past w, w'' = y.now :=
  h.mono fun _ w'' ⟨he, hb⟩ => ⟨he, ⟨w'', x.below.trans (hb.mono x.below.size)⟩, rfl⟩
theorem past_quiet {P : Program} {f : FuncId} {args : Array Value} {w : World} {v : Value} {x : Past w} (h : Calls P f args x.now (Quiet x.now v)) :
    Calls P f args x.now fun e w'' => e = .returned v ∧ ∃ y : Past w, w'' = y.now :=
  past_gives (h.mono fun _ _ h => h.gives)
end Go.Proofs.Ytehlijpjcjegcaa
