/- Bits of numbers: and, or, shifts; no program in sight. -/
import Derived.Test.YtehlijpjcjegcaaBase
import Derived.Laws.BitsAllLaws
import Derived.Laws.BitsLemmas
namespace Go.Proofs.Ytehlijpjcjegcaa
open Go.RowKit

theorem ofInt_i64 (a : Nat) (ha : a < 9223372036854775808) : (BitVec.ofInt 64 (a : Int)).toNat = a := by
  rw [BitVec.ofInt_natCast, BitVec.toNat_ofNat]; exact Nat.mod_eq_of_lt (by omega)
theorem i64_and_nat (a b : Nat) (ha : a < 9223372036854775808) (hb : b < 9223372036854775808) : bits .and .i64 (a : Int) (b : Int) = ((a &&& b : Nat) : Int) := by
  have hx : a &&& b < 2 ^ 63 := Nat.and_lt_two_pow _ (by omega)
  show IntKind.i64.wrap ((((BitVec.ofInt 64 (a : Int)) &&& (BitVec.ofInt 64 (b : Int))).toNat : Nat) : Int) = _
  rw [BitVec.toNat_and, ofInt_i64 a ha, ofInt_i64 b hb, IntKind.wrap_i64]
  omega
theorem i64_or_nat (a b : Nat) (ha : a < 9223372036854775808) (hb : b < 9223372036854775808) : bits .or .i64 (a : Int) (b : Int) = ((a ||| b : Nat) : Int) := by
  have hx : a ||| b < 2 ^ 63 := Nat.or_lt_two_pow (by omega) (by omega)
  show IntKind.i64.wrap ((((BitVec.ofInt 64 (a : Int)) ||| (BitVec.ofInt 64 (b : Int))).toNat : Nat) : Int) = _
  rw [BitVec.toNat_or, ofInt_i64 a ha, ofInt_i64 b hb, IntKind.wrap_i64]
  omega
theorem and_one (x : Nat) (hx : x < 9223372036854775808) : bits .and .i64 (x : Int) 1 = ((x % 2 : Nat) : Int) := by
  have := i64_and_nat x 1 hx (by decide)
  rwa [Nat.and_one_is_mod] at this
theorem shr_nat (s k : Nat) : (s : Int) / 2 ^ k = ((s / 2 ^ k : Nat) : Int) := by
  rw [Int.natCast_ediv, Int.natCast_pow]; rfl
theorem div_lt' (s k : Nat) (h : s < 9223372036854775808) : s / 2 ^ k < 9223372036854775808 := Nat.lt_of_le_of_lt (Nat.div_le_self _ _) h
theorem pow_wrap {n N : Nat} (h : 2 ^ n = N) (hN : N ≤ 1048576) : wrap64 ((2 : Int) ^ n) = (N : Int) := by
  have e : ((2 : Int) ^ n) = (N : Int) := by rw [← h, Int.natCast_pow]; rfl
  rw [e]
  clear e h
  unfold wrap64
  omega
/-- A set as a number: its members are those of a list. -/
def UsedOf (u : Nat) (seen : List Int) : Prop := ∀ k : Nat, u / 2 ^ k % 2 = 1 ↔ (k : Int) ∈ seen
theorem UsedOf.zero : UsedOf 0 [] := fun k => by simp
theorem UsedOf.add {u : Nat} {seen : List Int} (h : UsedOf u seen) (a : Nat) : UsedOf (u ||| 2 ^ a) (seen ++ [(a : Int)]) := fun k => by
  have h1 := Nat.testBit_eq_decide_div_mod_eq (x := u ||| 2 ^ a) (i := k)
  have h2 := Nat.testBit_eq_decide_div_mod_eq (x := u) (i := k)
  rw [Nat.testBit_or, Nat.testBit_two_pow, h2] at h1
  have h3 := h k
  rw [List.mem_append, ← h3, List.mem_singleton]
  by_cases hak : a = k
  · subst hak
    simp at h1
    simp [h1]
  · have : ¬ (k : Int) = (a : Int) := by omega
    simp [hak] at h1
    simp only [this, or_false]
    rw [h1]
end Go.Proofs.Ytehlijpjcjegcaa
