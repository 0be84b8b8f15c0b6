/- Contracts: whether a number lies in a range (program and reference). -/
import Derived.Test.YtehlijpjcjegcaaRows
import Derived.Test.YtehlijpjcjegcaaBase
namespace Go.Proofs.Ytehlijpjcjegcaa
open Go.RowKit

def inR (n lo hi : Int) : Bool := decide (lo ≤ n) && decide (n ≤ hi)
theorem inR_true {n lo hi : Int} (h : inR n lo hi = true) : lo ≤ n ∧ n ≤ hi := by simpa [inR] using h
theorem inR_false {n lo hi : Int} (h : inR n lo hi = false) : n < lo ∨ hi < n := by simp [inR] at h; omega

set_option maxHeartbeats 400000 in
theorem within_c (n lo hi : Int) (w : World) : Calls Try.prog 79 #[.int .i64 n, .int .i64 lo, .int .i64 hi] w (Quiet w (.bool (inR n lo hi))) := by
  generalize hR : inR n lo hi = R
  have HR := Lib.hid hR
  clear hR
  by_cases h1 : lo ≤ n
  · go_enter Try.func79, Try.ntmps79
    go_wp2
    go_ret
    exact ⟨ret_bool (by rw [← HR.out]; simp [inR, h1]), Dr.refl _⟩
  · have hd : decide (lo ≤ n) = false := by simpa using h1
    go_enter Try.func79, Try.ntmps79
    go_wp2
    go_ret
    exact ⟨ret_bool (by rw [← HR.out]; simp [inR]; omega), Dr.refl _⟩

set_option maxHeartbeats 400000 in
theorem l01In_c (n lo hi : Int) (w : World) : Calls Try.prog 77 #[.int .i64 n, .int .i64 lo, .int .i64 hi] w (Quiet w (.bool (inR n lo hi))) := by
  generalize hR : inR n lo hi = R
  have HR := Lib.hid hR
  clear hR
  by_cases h1 : lo ≤ n
  · go_enter Try.func77, Try.ntmps77
    go_wp2
    go_ret
    exact ⟨ret_bool (by rw [← HR.out]; simp [inR, h1]), Dr.refl _⟩
  · have hd : decide (lo ≤ n) = false := by simpa using h1
    go_enter Try.func77, Try.ntmps77
    go_wp2
    go_ret
    exact ⟨ret_bool (by rw [← HR.out]; simp [inR]; omega), Dr.refl _⟩
end Go.Proofs.Ytehlijpjcjegcaa
