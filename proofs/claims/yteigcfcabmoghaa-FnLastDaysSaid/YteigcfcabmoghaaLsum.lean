/- Contract: the sum that the laws themselves use. -/
import Derived.Test.YteigcfcabmoghaaCode
namespace Go.Proofs.Yteigcfcabmoghaa
open Go.ChangeShapes Go.WideShapes Go.ChangeAt Go.RowKit
set_option linter.unusedVariables false
set_option linter.unusedSimpArgs false

/-! ### A sum (the law's own) -/
set_option maxHeartbeats 1000000 in
theorem lsum_c (A : Option Addr) (c : Nat) (xs : List Int) (w : World) (ha : Ints w A xs) (hl : xs.length ≤ 1000) (hb : ∀ x ∈ xs, 0 ≤ x ∧ x ≤ 100000) :
    Calls Try.prog 40 #[.slice A xs.length c] w (Quiet w (.int .i64 xs.sum)) := by
  generalize hR : xs.sum = R
  have HR := Lib.hid hR
  clear hR
  obtain ⟨n, hn⟩ : ∃ n, xs.length = n := ⟨_, rfl⟩
  rw [hn] at hl ⊢
  have Ha := Lib.hid ha
  have Hb := Lib.hid hb
  have Hn := Lib.hid hn
  clear ha hb hn
  go_enter Try.func40, Try.ntmps40
  go_wp2
  go_loopw [8, 3] (fun i s wr => ∃ (k : Nat) (z : Int), k ≤ n ∧ i = .int .i64 k ∧ s = .int .i64 z ∧ 0 ≤ z ∧ z ≤ 100000 * (k : Int) ∧ z + (xs.drop k).sum = R ∧ Dr w wr) (fun i _ _ => n - (intOf i).toNat)
  case atStart => exact ⟨0, 0, Nat.zero_le _, rfl, rfl, by omega, by omega, by simpa using HR.out, Dr.refl _⟩
  case round =>
    obtain ⟨k, z, hk, rfl, rfl, hz0, hz1, hS, hd⟩ := hrel
    have HS := Lib.hid hS
    have Hd := Lib.hid hd
    clear hS hd
    by_cases hlt : k < n
    · obtain ⟨v, hv⟩ := some_of (l := xs) (k := k) (by rw [Hn.out]; exact hlt)
      obtain ⟨hv0, hv1⟩ := Hb.out v (List.mem_of_getElem? hv)
      obtain ⟨ad, rfl, hcv⟩ := (Ha.out.keep Hd.out.keep) k v hv
      have HS1 : Hid (z + v + (xs.drop (k + 1)).sum = R) := Lib.hid (by have := HS.out; rw [drop_of hv, List.sum_cons] at this; omega)
      have e2 : IntKind.i64.wrap (z + v) = z + v := IntWalk.i64_in _ (by omega)
      have Hv := Lib.hid hv
      clear hv
      clear HS
      go_wp2
      go_roundw
      case rel => exact ⟨k + 1, z + v, by omega, by go_num, by go_num, by omega, by omega, HS1.out, Hd.out⟩
      case measure => simp [intOf]; omega
    · obtain rfl : k = n := by omega
      have HS1 : Hid (z = R) := Lib.hid (by have := HS.out; rw [drop_end (l := xs) (by rw [Hn.out]; exact Nat.le_refl _)] at this; simpa using this)
      go_wp2
      go_ret
      exact ⟨ret_int HS1.out, Hd.out⟩

end Go.Proofs.Yteigcfcabmoghaa
