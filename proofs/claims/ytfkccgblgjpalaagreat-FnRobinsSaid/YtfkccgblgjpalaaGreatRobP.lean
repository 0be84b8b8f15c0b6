
/- What the law on round robins wants of the circle's plans, in plain Lean: reckoned for the five numbers of clubs. -/
import Derived.Test.YtfkccgblgjpalaaGreatCircle
import Derived.Test.YtfkccgblgjpalaaGreatRoundRobin
import Derived.Test.YtfkccgblgjpalaaGreatBreaks
import Derived.Test.YtfkccgblgjpalaaGreatPatsOf
import Derived.Test.YtfkccgblgjpalaaGreatMost
import Derived.Test.YtfkccgblgjpalaaGreatDiff
import Derived.Test.YtfkccgblgjpalaaGreatSwap
import Derived.Test.YtfkccgblgjpalaaGreatRepT
import Derived.Test.YtfkccgblgjpalaaGreatRobin2
namespace Go.Proofs.YtfkccgblgjpalaaGreat
set_option linter.unusedVariables false
open Go.RowKit

def robA (n : Nat) (P : List (List Int)) : Bool :=
  isClubsB n && decide (P.length = n - 1) && planOk n P && rrOk n P 1 && decide (cntBreaks n P = (n : Int) - 2) && decide ((patsF n P).length = n) && evenF (patsF n P) && diffF (patsF n P) &&
    rrOk n (doubleOf n P) 2 && decide (cntBreaks n (turnOf n P) = (n : Int) - 2) && decide ((turnOf n P).length = n - 1) && decide ((doubleOf n P).length = 2 * (n - 1)) && P.all (fun xs => decide (xs.length ≤ 10))
def robL (n : Nat) (P : List (List Int)) : Bool := decide (lackF (patsF n P) = 0)
def robS (n : Nat) (P : List (List Int)) (r s : Nat) : Bool :=
  rrOk n (swapOf n P r s) 1 && decide ((swapOf n P r s).length = n - 1) && decide (swapOf n (swapOf n P r s) r s = P) && decide ((n : Int) - 2 ≤ cntBreaks n (swapOf n P r s))
def robK (n : Nat) (P : List (List Int)) (k : Nat) : Bool :=
  decide (((breaksOf n P k).length : Int) = patBreaks (venues n P k)) && decide (venues n (turnOf n P) k = otherF (venues n P k)) && decide ((breaksOf n P k).length ≤ 36)
def robI (n : Nat) (P : List (List Int)) (k i : Nat) : Bool :=
  decide (0 ≤ oppIn n P i k) && decide (oppIn n P i k < n) && decide (oppIn n P i k ≠ k) && decide (oppIn n P i (oppIn n P i k) = k) && decide (oppIn n (turnOf n P) i k = oppIn n P i k)
def robT (n : Nat) (P : List (List Int)) : Nat → Nat
  | 0 => 0
  | k + 1 => robT n P k + (breaksOf n P k).length
def robAll (n : Nat) (P : List (List Int)) : Prop :=
  robA n P = true ∧ robL n P = true ∧ robT n P n = n - 2 ∧ (∀ k, k < n → robK n P k = true) ∧ (∀ k, k < n → ∀ i, i < n - 1 → robI n P k i = true) ∧ (∀ r, r < n - 1 → ∀ s, s < n - 1 → robS n P r s = true)
instance (n : Nat) (P : List (List Int)) : Decidable (robAll n P) := by unfold robAll; infer_instance
set_option maxRecDepth 100000
theorem rob2 : robAll 2 (circleOf 2) := by decide +kernel
theorem rob4 : robAll 4 (circleOf 4) := by decide +kernel
theorem rob6 : robAll 6 (circleOf 6) := by decide +kernel
theorem rob8 : robAll 8 (circleOf 8) := by decide +kernel
theorem rob10 : robAll 10 (circleOf 10) := by decide +kernel

structure Rob (n : Nat) (P : List (List Int)) : Prop where
  two : 2 ≤ n
  ten : n ≤ 10
  clubs : isClubsB n = true
  len : P.length = n - 1
  ok : planOk n P = true
  rr : rrOk n P 1 = true
  cb : cntBreaks n P = (n : Int) - 2
  pl : (patsF n P).length = n
  lack : lackF (patsF n P) = 0
  even : evenF (patsF n P) = true
  diff : diffF (patsF n P) = true
  rd : rrOk n (doubleOf n P) 2 = true
  ct : cntBreaks n (turnOf n P) = (n : Int) - 2
  tl : (turnOf n P).length = n - 1
  dl : (doubleOf n P).length = 2 * (n - 1)
  row : ∀ xs ∈ P, xs.length ≤ 1048576
  tot : robT n P n = n - 2
  tb : ∀ k, k ≤ n → robT n P k ≤ 360
  br : ∀ k : Nat, k < n → ((breaksOf n P k).length : Int) = patBreaks (venues n P k) ∧ venues n (turnOf n P) k = otherF (venues n P k) ∧ (breaksOf n P k).length ≤ 36
  op : ∀ k i : Nat, k < n → i < n - 1 → ∃ o : Nat, oppIn n P i k = (o : Int) ∧ o < n ∧ o ≠ k ∧ oppIn n P i (o : Int) = (k : Int) ∧ oppIn n (turnOf n P) i k = (o : Int)
  sw : ∀ r s : Nat, r < n - 1 → s < n - 1 → rrOk n (swapOf n P r s) 1 = true ∧ (swapOf n P r s).length = n - 1 ∧ swapOf n (swapOf n P r s) r s = P ∧ (n : Int) - 2 ≤ cntBreaks n (swapOf n P r s)
theorem rob_struct {n : Nat} {P : List (List Int)} (h2 : 2 ≤ n) (h10 : n ≤ 10) (h : robAll n P) : Rob n P := by
  obtain ⟨hA, hL, hT, hK, hI, hS⟩ := h
  simp only [robA, Bool.and_eq_true, decide_eq_true_eq, List.all_eq_true] at hA
  obtain ⟨⟨⟨⟨⟨⟨⟨⟨⟨⟨⟨⟨a1, a2⟩, a3⟩, a4⟩, a5⟩, a6⟩, a7⟩, a8⟩, a9⟩, a10⟩, a11⟩, a12⟩, a13⟩ := hA
  have hbr : ∀ k : Nat, k < n → ((breaksOf n P k).length : Int) = patBreaks (venues n P k) ∧ venues n (turnOf n P) k = otherF (venues n P k) ∧ (breaksOf n P k).length ≤ 36 := fun k hk => by
    have := hK k hk
    simp only [robK, Bool.and_eq_true, decide_eq_true_eq] at this
    exact ⟨this.1.1, this.1.2, this.2⟩
  have htb : ∀ k, k ≤ n → robT n P k ≤ 36 * k := by
    intro k
    induction k with
    | zero => intro _; simp [robT]
    | succ k ih =>
      intro hk
      have h1 := ih (by omega)
      have h3 := (hbr k (by omega)).2.2
      rw [robT]; omega
  refine ⟨h2, h10, a1, a2, a3, a4, a5, a6, ?_, a7, a8, a9, a10, a11, a12, fun xs hx => Nat.le_trans (a13 xs hx) (by decide), hT, fun k hk => by have := htb k hk; omega, hbr, fun k i hk hi => ?_, fun r s hr hs => ?_⟩
  · simpa [robL] using hL
  · have := hI k hk i hi
    simp only [robI, Bool.and_eq_true, decide_eq_true_eq] at this
    obtain ⟨⟨⟨⟨b1, b2⟩, b3⟩, b4⟩, b5⟩ := this
    obtain ⟨o, ho⟩ := Int.eq_ofNat_of_zero_le b1
    rw [ho] at b2 b3 b4 b5
    exact ⟨o, ho, by omega, by omega, b4, b5⟩
  · have := hS r hr s hs
    simp only [robS, Bool.and_eq_true, decide_eq_true_eq] at this
    exact ⟨this.1.1.1, this.1.1.2, this.1.2, this.2⟩
theorem rob_of {q n : Nat} (hq : q < 5) (hn : 2 * (1 + q) = n) : Rob n (circleOf n) := by
  subst hn
  match q, hq with
  | 0, _ => exact rob_struct (by decide) (by decide) rob2
  | 1, _ => exact rob_struct (by decide) (by decide) rob4
  | 2, _ => exact rob_struct (by decide) (by decide) rob6
  | 3, _ => exact rob_struct (by decide) (by decide) rob8
  | 4, _ => exact rob_struct (by decide) (by decide) rob10
end Go.Proofs.YtfkccgblgjpalaaGreat
