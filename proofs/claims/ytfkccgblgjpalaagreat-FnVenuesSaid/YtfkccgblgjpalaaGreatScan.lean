
/- Contracts: slices.IndexFunc and slices.ContainsFunc over a slice of numbers, with a predicate that only reads; whether all numbers of a list lie in a range. -/
import Derived.Test.YtfkccgblgjpalaaGreatIn
import Derived.Shelf.Abstract
namespace Go.Proofs.YtfkccgblgjpalaaGreat
open Go.RowKit

def idxFrom {α : Type} (p : α → Bool) : Nat → List α → Int
  | _, [] => -1
  | k, x :: r => if p x then (k : Int) else idxFrom p (k + 1) r
theorem idxFrom_any {α : Type} (p : α → Bool) : ∀ (xs : List α) (k : Nat), decide (idxFrom p k xs ≥ 0) = xs.any p
  | [], _ => by simp [idxFrom]
  | x :: r, k => by
    unfold idxFrom
    cases h : p x
    · simpa [h] using idxFrom_any p r (k + 1)
    · simp [h]

/-- A predicate on numbers: in whatever world that lies draws behind w it answers, and draws alone. -/
def PredI (g : Nat) (lb : Array Value) (p : Int → Bool) (w : World) : Prop := ∀ (W : World) (x : Int), Dr w W → Calls Tryz.prog g (#[.int .i64 x] ++ lb) W (Quiet W (.bool (p x)))

end Go.Proofs.YtfkccgblgjpalaaGreat
