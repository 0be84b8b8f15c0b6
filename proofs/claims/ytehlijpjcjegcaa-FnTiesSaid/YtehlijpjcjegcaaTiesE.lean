/- Contract for the law on ties: bits (laws); how many clubs the table of the tied holds. -/
import Derived.Test.YtehlijpjcjegcaaTiesD
namespace Go.Proofs.Ytehlijpjcjegcaa
set_option linter.unusedVariables false
set_option linter.unusedSimpArgs false
open Go.RowKit

def bitN : Nat → Nat → Nat
  | 0, _ => 0
  | f + 1, x => x % 2 + bitN f (x / 2)
theorem bitN_zero : ∀ f, bitN f 0 = 0
  | 0 => rfl
  | f + 1 => by rw [bitN, Nat.zero_div, bitN_zero f]
theorem inSet_succ (x k : Nat) : inSet x ((k + 1 : Nat) : Int) = inSet (x / 2) (k : Int) := by
  rw [inSet, inSet, Int.toNat_natCast, Int.toNat_natCast, Nat.pow_succ, Nat.mul_comm, ← Nat.div_div_eq_div_mul]
theorem bitN_filter : ∀ f x : Nat, ((List.range f).filter (fun k : Nat => inSet x (k : Int))).length = bitN f x
  | 0, x => rfl
  | f + 1, x => by
    have h0 : inSet x ((0 : Nat) : Int) = decide (x % 2 = 1) := by rw [inSet, Int.toNat_natCast, Nat.pow_zero, Nat.div_one]
    have e : ((fun k : Nat => inSet x (k : Int)) ∘ Nat.succ) = fun k : Nat => inSet (x / 2) (k : Int) := funext fun k => inSet_succ x k
    rw [List.range_succ_eq_map, List.filter_cons, List.filter_map, e, h0, bitN, ← bitN_filter f (x / 2)]
    by_cases h : x % 2 = 1
    · rw [if_pos (by rw [decide_eq_true h]), List.length_cons, List.length_map]; omega
    · rw [if_neg (by rw [decide_eq_false h]; decide), List.length_map]; omega
theorem head_bits {n : Nat} {rs : List Res} (hok : leagueOk n rs = true) {a : Nat} (ha : a < n) : (headF n rs ((tiedOf (pointsF n rs) a : Nat) : Int)).length = bitN n (tiedOf (pointsF n rs) a) := by
  obtain ⟨h1, h2⟩ := head_tied hok ha
  have hl := pointsF_len (league_of hok)
  rw [← bitN_filter]
  refine List.Perm.length_eq ((List.perm_ext_iff_of_nodup h1 (List.Pairwise.filter _ List.nodup_range)).2 (fun b => ?_))
  rw [h2, List.mem_filter, in_tied, decide_eq_true_iff, hl]
  simp only [List.mem_range]
  constructor
  · rintro ⟨x, y⟩; exact ⟨x, x, y⟩
  · rintro ⟨x, _, y⟩; exact ⟨x, y⟩

set_option maxHeartbeats 1000000 in
theorem lbits_c (f s : Nat) (w : World) (hs : s < 2 ^ f) (hf : f ≤ 60) :
    Calls Try.prog 36 #[.int .i64 s] w (Quiet w (.int .i64 (bitN f s : Nat))) := by
  generalize hR : bitN f s = R
  have HR := Lib.hid hR
  clear hR
  have hs60 : s < 9223372036854775808 := Nat.lt_of_lt_of_le hs (Nat.le_trans (Nat.pow_le_pow_right (by decide) hf) (by decide))
  go_enter Try.func36, Try.ntmps36
  go_wp2
  go_loopw [0, 3] (fun n k wr => ∃ (g a x : Nat), n = .int .i64 x ∧ k = .int .i64 a ∧ a + bitN g x = R ∧ x < 2 ^ g ∧ a + g ≤ 60 ∧ x < 9223372036854775808 ∧ Dr w wr) (fun n _ _ => (intOf n).toNat)
  case atStart => exact ⟨f, 0, s, rfl, rfl, by simpa using HR.out, hs, by omega, hs60, Dr.refl _⟩
  case round =>
    obtain ⟨g, a, x, rfl, rfl, hS, hx, hag, hx60, hd⟩ := hrel
    have HS := Lib.hid hS
    have Hx := Lib.hid hx
    have Hd := Lib.hid hd
    clear hS hx hd
    by_cases h0 : 0 < x
    · have hg : ∃ g', g = g' + 1 := by
        cases g with
        | zero => have := Hx.out; simp at this; omega
        | succ g' => exact ⟨g', rfl⟩
      obtain ⟨g, rfl⟩ := hg
      have e2 : bits .and .i64 (x : Int) 1 = ((x % 2 : Nat) : Int) := and_one x hx60
      have hm : x % 2 < 2 := Nat.mod_lt _ (by decide)
      have hx1 : x / 2 < 2 ^ g := by have := Hx.out; rw [Nat.pow_succ] at this; omega
      have HS1 : Hid ((a + x % 2) + bitN g (x / 2) = R) := Lib.hid (by
        have := HS.out
        rw [bitN] at this
        omega)
      have Hx1 := Lib.hid hx1
      clear hx1
      go_wp2
      go_roundw
      case rel => exact ⟨g, a + x % 2, x / 2, by go_num, by go_num, HS1.out, Hx1.out, by omega, by omega, Hd.out⟩
      case measure => simp [intOf]; omega
    · obtain rfl : x = 0 := by omega
      have HS1 : Hid (a = R) := Lib.hid (by have := HS.out; rwa [bitN_zero] at this)
      go_wp2
      go_ret
      exact ⟨ret_int (by rw [HS1.out]), Hd.out⟩
end Go.Proofs.Ytehlijpjcjegcaa
