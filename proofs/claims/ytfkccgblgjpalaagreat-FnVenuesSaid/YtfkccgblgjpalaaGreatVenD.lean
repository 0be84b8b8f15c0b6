
/- Patterns with a break, reckoned for all lengths from 2 to 9. -/
import Derived.Test.YtfkccgblgjpalaaGreatVenC
import Derived.Test.YtfkccgblgjpalaaGreatPwb
import Derived.Test.YtfkccgblgjpalaaGreatDiff
namespace Go.Proofs.YtfkccgblgjpalaaGreat
open Go.RowKit
def pwbOk (k r : Nat) : Prop :=
  (patWB k r ⟨#[72]⟩).2 = true ∧ (patWB k r ⟨#[65]⟩).2 = true ∧ (patWB k r ⟨#[72]⟩).1.size = k ∧ (patWB k r ⟨#[72]⟩).1.data.toList[0]? = some 72 ∧ patBreaks (patWB k r ⟨#[72]⟩).1 = (if r = 0 then 0 else 1) ∧
    otherF (patWB k r ⟨#[72]⟩).1 = (patWB k r ⟨#[65]⟩).1 ∧ diffF [(patWB k r ⟨#[72]⟩).1, (patWB k r ⟨#[65]⟩).1] = true ∧ (meetF [(patWB k r ⟨#[72]⟩).1, (patWB k r ⟨#[65]⟩).1] 0 1).length = k
instance (k r : Nat) : Decidable (pwbOk k r) := by unfold pwbOk; infer_instance
set_option maxRecDepth 100000
theorem pwb_all : ∀ j : Nat, j < 8 → ∀ r : Nat, r < 2 + j → pwbOk (2 + j) r := by decide +kernel
end Go.Proofs.YtfkccgblgjpalaaGreat
