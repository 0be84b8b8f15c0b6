
/- Plans that are drawn: valid in plain Lean; the contract of MakePlan. -/
import Derived.Test.YtfkccgblgjpalaaGreatCur2
import Derived.Test.YtfkccgblgjpalaaGreatSwap
import Derived.Test.YtfkccgblgjpalaaGreatOpen
import Derived.Test.YtfkccgblgjpalaaGreatCircle
namespace Go.Proofs.YtfkccgblgjpalaaGreat
set_option linter.unusedSimpArgs false
set_option linter.unusedVariables false
open Go.RowKit

theorem opp_neg (v : Int) : opp (-v) = opp v := by unfold opp; omega
theorem sgn_neg {v : Int} (h : v ≠ 0) : sgn (-v) = - sgn v := by unfold sgn; split <;> split <;> omega
theorem neg_getD (l : List Int) (k : Nat) : (neg l).getD k 0 = - l.getD k 0 := by
  rw [neg, List.getD_eq_getElem?_getD, List.getD_eq_getElem?_getD, List.getElem?_map]
  cases l[k]? <;> simp
theorem cellOk_neg {n : Int} {round : List Int} {k : Nat} {v : Int} (h : cellOk n round k v = true) : cellOk n (neg round) k (-v) = true := by
  simp only [cellOk, Bool.and_eq_true, Bool.not_eq_true', decide_eq_false_iff_not, decide_eq_true_eq] at h ⊢
  obtain ⟨⟨⟨h1, h2⟩, h3⟩, h4⟩ := h
  have h5 := inR_true h2
  refine ⟨⟨⟨by omega, by simp [inR]; omega⟩, by rw [opp_neg]; exact h3⟩, ?_⟩
  rw [opp_neg, neg_getD, h4, Int.neg_neg, sgn_neg h1, Int.mul_neg, Int.neg_neg]
theorem cellsOk_neg {n : Int} {round : List Int} : ∀ (r : List Int) (k : Nat), cellsOk n round k r = true → cellsOk n (neg round) k (neg r) = true
  | [], _, _ => rfl
  | v :: r, k, h => by
    simp only [cellsOk, Bool.and_eq_true] at h
    show cellsOk n (neg round) k (-v :: neg r) = true
    simp only [cellsOk, Bool.and_eq_true]
    exact ⟨cellOk_neg h.1, cellsOk_neg r (k + 1) h.2⟩
theorem roundOk_neg {n : Int} {round : List Int} (h : roundOk n round = true) : roundOk n (neg round) = true := by
  simp only [roundOk, Bool.and_eq_true, decide_eq_true_eq] at h ⊢
  exact ⟨by rw [neg, List.length_map]; exact h.1, cellsOk_neg round 0 h.2⟩
theorem planOk_double {n : Int} {plan : List (List Int)} (h : planOk n plan = true) (hl : plan.length ≤ 18) : planOk n (plan ++ turn plan) = true := by
  simp only [planOk, Bool.and_eq_true, decide_eq_true_eq, List.all_eq_true] at h ⊢
  obtain ⟨⟨h1, h2⟩, h3⟩ := h
  refine ⟨⟨h1, by rw [List.length_append, turn_length]; omega⟩, fun x hx => ?_⟩
  rcases List.mem_append.1 hx with hx | hx
  · exact h3 x hx
  · obtain ⟨y, hy, rfl⟩ := List.mem_map.1 hx
    exact roundOk_neg (h3 y hy)
theorem planOk_take {n : Int} {plan : List (List Int)} (h : planOk n plan = true) (k : Nat) : planOk n (plan.take k) = true := by
  simp only [planOk, Bool.and_eq_true, decide_eq_true_eq, List.all_eq_true] at h ⊢
  obtain ⟨⟨h1, h2⟩, h3⟩ := h
  exact ⟨⟨h1, by rw [List.length_take]; omega⟩, fun x hx => h3 x (List.mem_of_mem_take hx)⟩
def Size (n : Nat) : Prop := n = 2 ∨ n = 4 ∨ n = 6 ∨ n = 8
theorem circle_ok {n : Nat} (h : Size n) : planOk n (circle n) = true ∧ (circle n).length = n - 1 := by
  rcases h with rfl | rfl | rfl | rfl <;> exact ⟨by decide +kernel, by decide +kernel⟩
theorem rows_take {w : World} {A : Option Addr} {xss : List (List Int)} (h : Rows w A xss) (k : Nat) : Rows w A (xss.take k) := fun i u hu => by
  rw [List.getElem?_take] at hu
  split at hu
  · exact h i u hu
  · cases hu

/-- A drawn plan. -/
def APlan (w0 : World) (e : Ending) (w' : World) : Prop := ∃ (n : Nat) (A : Option Addr) (c : Nat) (plan : List (List Int)), e = .returned (.tuple #[.int .i64 (n : Int), .slice A plan.length c]) ∧ Size n ∧ planOk n plan = true ∧ plan.length ≤ 14 ∧ Rows w' A plan ∧ Below w0.heap.size w0 w'
end Go.Proofs.YtfkccgblgjpalaaGreat
