/- Contracts: slices.Index, slices.Contains, slices.Max over ints. -/
import Derived.Test.YtehlijpjcjegcaaScan
namespace Go.Proofs.Ytehlijpjcjegcaa
open Go.RowKit

def maxOf (m : Int) : List Int → Int
  | [] => m
  | x :: r => maxOf (max m x) r
theorem maxOf_le : ∀ (r : List Int) (m b : Int), maxOf m r ≤ b ↔ m ≤ b ∧ ∀ x ∈ r, x ≤ b
  | [], m, b => by simp [maxOf]
  | x :: r, m, b => by
    rw [maxOf, maxOf_le r]
    simp only [List.mem_cons, forall_eq_or_imp, Int.max_le]
    exact and_assoc
theorem maxOf_mem : ∀ (r : List Int) (m : Int), maxOf m r = m ∨ maxOf m r ∈ r
  | [], m => .inl rfl
  | x :: r, m => by
    rw [maxOf]
    rcases maxOf_mem r (max m x) with h | h
    · rcases Int.le_total m x with h2 | h2
      · rw [h, Int.max_eq_right h2]; exact .inr (by simp)
      · rw [h, Int.max_eq_left h2]; exact .inl rfl
    · exact .inr (by simp [h])
set_option maxHeartbeats 400000 in
theorem max_c (A : Option Addr) (c : Nat) (x : Int) (xs : List Int) (w : World) (ha : Ints w A (x :: xs)) (hm : (x :: xs).length ≤ 1048576) :
    Calls Try.prog 59 #[.slice A (x :: xs).length c] w (Quiet w (.int .i64 (maxOf x xs))) := by
  generalize hR : maxOf x xs = R
  have HR := Lib.hid hR
  clear hR
  obtain ⟨n, hn⟩ : ∃ n, (x :: xs).length = n := ⟨_, rfl⟩
  have hn1 : 1 ≤ n := by rw [← hn]; simp
  have hn2 : n ≤ 1048576 := by rw [← hn]; exact hm
  obtain ⟨ad, rfl, h0⟩ := ha 0 x rfl
  rw [Addr.add_zero'] at h0
  rw [hn]
  clear hm
  have HS : Hid (maxOf x ((x :: xs).drop 1) = R) := Lib.hid HR.out
  have Hn := Lib.hid hn
  have Ha := Lib.hid ha
  clear hn ha
  generalize x :: xs = ys at Ha Hn HS
  go_enter Try.func59, Try.ntmps59
  go_wp2
  go_loopw [4, 3] (fun i m wr => ∃ (k : Nat) (b : Int), 1 ≤ k ∧ k ≤ n ∧ i = .int .i64 k ∧ m = .int .i64 b ∧ maxOf b (ys.drop k) = R ∧ Dr w wr) (fun i _ _ => n - (intOf i).toNat)
  case atStart => exact ⟨1, x, Nat.le_refl _, hn1, rfl, rfl, HS.out, Dr.refl _⟩
  case round =>
    obtain ⟨k, b, hk1, hk, rfl, rfl, hS, hd⟩ := hrel
    have HS := Lib.hid hS
    have Hd := Lib.hid hd
    clear hS hd
    by_cases hlt : k < n
    · obtain ⟨y, hy⟩ := some_of (l := ys) (k := k) (by rw [Hn.out]; exact hlt)
      obtain ⟨ae, eae, hca⟩ := Ha.out.keep Hd.out.keep k y hy
      obtain rfl : ad = ae := by injection eae
      have HS2 : Hid (maxOf (max b y) (ys.drop (k + 1)) = R) := Lib.hid (by have := HS.out; rw [drop_of hy, maxOf] at this; exact this)
      have Hy := Lib.hid hy
      clear hy
      clear eae
      go_wp2
      all_goals
        go_roundw
        case rel => exact ⟨k + 1, max b y, by omega, by omega, by go_num, by go_num, HS2.out, Hd.out⟩
        case measure => simp [intOf]; omega
    · obtain rfl : k = n := by omega
      have HS2 : Hid (b = R) := Lib.hid (by have := HS.out; rwa [List.drop_of_length_le (by rw [Hn.out]; exact Nat.le_refl _), maxOf] at this)
      go_wp2
      go_ret
      exact ⟨ret_int HS2.out, Hd.out⟩

end Go.Proofs.Ytehlijpjcjegcaa
