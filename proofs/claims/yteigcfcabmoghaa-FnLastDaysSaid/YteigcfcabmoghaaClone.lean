/- Contracts: a copy of a slice of ints. -/
import Derived.Test.YteigcfcabmoghaaBase3
import Derived.WalkSpells
namespace Go.Proofs.Yteigcfcabmoghaa
open Go.RowKit

theorem info_rows_ne : (3 : TypeId) ≠ 22 := by decide
set_option maxHeartbeats 400000 in
theorem clone_c (A : Option Addr) (c : Nat) (xs : List Int) (w : World) (ha : Ints w A xs) (hm : xs.length ≤ 1048576) :
    Calls Try.prog 63 #[.slice A xs.length c] w (GivesI 3 w xs) := by
  have Ha := Lib.hid ha
  clear ha
  have hnil := fun (W : World) (a : Option Addr) (n c : Nat) => Lib.run_eql_slice_nil (P := Try.prog) W 22 3 a n c 0 0 Try.underlying22
  cases A with
  | none =>
    obtain rfl : xs = [] := by
      cases xs with
      | nil => rfl
      | cons x t => obtain ⟨ad, e, _⟩ := Ha.out 0 x rfl; cases e
    go_enter Try.func63, Try.ntmps63
    go_wp2
    go_ret
    exact ⟨none, 0, rfl, Own.nil .., Below.refl _ _⟩
  | some ad =>
    go_enter Try.func63, Try.ntmps63
    go_wp2_with (at_builtin; refine wpList_appN rfl (.tmp 5) (.tmp 6) 22 rfl 3 (.int .i64 0) 8 Try.underlying22 info_int rfl w.heap.size (some ⟨w.heap.size, 0, none⟩) 0 [] ?_ ?_ (some ad) c (xs.map (.int .i64)) ?_ ?_ ?_ ?_ ?_ 0 xs.length ?_ ?_ ?_ ?_ ?_; exact ⟨by simp, by unfold maxLen; omega, .inr ⟨w.heap.size, #[], rfl, Nat.le_refl _, by simp, heap_alloc_new w _, rfl, rfl⟩⟩; simp; exact (Ha.out.keep (keep_of_below ((Below.refl _ _).alloc (Nat.le_refl _) _))).cells; exact ints_oneCell .i64 xs; decide; (simp; omega); decide; rfl; simp; rfl; rfl; intro B' d' w' ho' hb' _ _)
    go_ret
    exact ⟨B', d', by simp, by simpa using ho', ((Below.refl _ _).alloc (Nat.le_refl _) _).trans hb'⟩

theorem out_empty (TT lo : Nat) (w : World) (hlo : lo ≤ w.heap.size) : Own TT lo (w.alloc (.cells #[] TT)).heap.size (w.alloc (.cells #[] TT)) (some ⟨w.heap.size, 0, none⟩) 0 [] :=
  ⟨by simp, by unfold maxLen; omega, .inr ⟨w.heap.size, #[], rfl, hlo, by simp, heap_alloc_new w _, rfl, rfl⟩⟩

end Go.Proofs.Yteigcfcabmoghaa
