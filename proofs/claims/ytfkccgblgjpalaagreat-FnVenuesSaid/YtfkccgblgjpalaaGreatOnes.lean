
/- Contract: bits.OnesCount of small numbers. -/
import Derived.Test.YtfkccgblgjpalaaGreatMem
namespace Go.Proofs.YtfkccgblgjpalaaGreat
open Go.RowKit

theorem ofInt_u64 (a : Nat) (ha : a < 18446744073709551616) : (BitVec.ofInt 64 (a : Int)).toNat = a := by
  rw [BitVec.ofInt_natCast, BitVec.toNat_ofNat]; exact Nat.mod_eq_of_lt (by omega)
theorem u64_and_nat (a b : Nat) (ha : a < 18446744073709551616) (hb : b < 18446744073709551616) : bits .and .u64 (a : Int) (b : Int) = ((a &&& b : Nat) : Int) := by
  have hx : a &&& b < 2 ^ 64 := Nat.and_lt_two_pow _ (by omega)
  show IntKind.u64.wrap ((BitVec.ofInt 64 (a : Int) &&& BitVec.ofInt 64 (b : Int)).toNat : Int) = _
  rw [BitVec.toNat_and, ofInt_u64 a ha, ofInt_u64 b hb, IntKind.wrap_u64]
  omega
/-- The steps of the count. -/
def oc1 (x : Nat) : Nat := (x / 2 &&& 6148914691236517205) + (x &&& 6148914691236517205)
def oc2 (x : Nat) : Nat := (x / 4 &&& 3689348814741910323) + (x &&& 3689348814741910323)
def oc3 (x : Nat) : Nat := (x / 16 + x) &&& 1085102592571150095
def oc4 (x : Nat) : Nat := x + x / 256
def oc5 (x : Nat) : Nat := x + x / 65536
def oc6 (x : Nat) : Nat := x + x / 4294967296
def ocAll (x : Nat) : Nat := oc6 (oc5 (oc4 (oc3 (oc2 (oc1 x))))) &&& 127
theorem ocAll_bits : ∀ x, x < 1024 → ocAll x = (bitsF 10 0 x).length := by decide +kernel
theorem oc1_le (x : Nat) : oc1 x ≤ x / 2 + x := by
  have h1 : x / 2 &&& 6148914691236517205 ≤ x / 2 := Nat.and_le_left
  have h2 : x &&& 6148914691236517205 ≤ x := Nat.and_le_left
  unfold oc1; omega
theorem oc2_le (x : Nat) : oc2 x ≤ x / 4 + x := by
  have h1 : x / 4 &&& 3689348814741910323 ≤ x / 4 := Nat.and_le_left
  have h2 : x &&& 3689348814741910323 ≤ x := Nat.and_le_left
  unfold oc2; omega
theorem oc3_le (x : Nat) : oc3 x ≤ x / 16 + x := Nat.and_le_left

theorem u64_in (n : Int) (h : 0 ≤ n ∧ n ≤ 18446744073709551615) : IntKind.u64.wrap n = n := by rw [IntKind.wrap_u64]; omega
theorem st1 (x : Nat) (hx : x ≤ 1048576) : IntKind.u64.wrap (bits .and .u64 ((x : Int) / 2) 6148914691236517205 + bits .and .u64 (x : Int) 6148914691236517205) = ((oc1 x : Nat) : Int) := by
  have e := oc1_le x
  have h1 := u64_and_nat (x / 2) 6148914691236517205 (by omega) (by decide)
  have h2 := u64_and_nat x 6148914691236517205 (by omega) (by decide)
  rw [show ((x : Int) / 2) = ((x / 2 : Nat) : Int) from by omega]
  rw [show ((6148914691236517205 : Nat) : Int) = 6148914691236517205 from rfl] at h1 h2
  rw [h1, h2, ← Int.natCast_add]
  exact u64_in _ (by unfold oc1 at e; omega)
theorem st2 (x : Nat) (hx : x ≤ 1048576) : IntKind.u64.wrap (bits .and .u64 ((x : Int) / 4) 3689348814741910323 + bits .and .u64 (x : Int) 3689348814741910323) = ((oc2 x : Nat) : Int) := by
  have e := oc2_le x
  have h1 := u64_and_nat (x / 4) 3689348814741910323 (by omega) (by decide)
  have h2 := u64_and_nat x 3689348814741910323 (by omega) (by decide)
  rw [show ((x : Int) / 4) = ((x / 4 : Nat) : Int) from by omega]
  rw [show ((3689348814741910323 : Nat) : Int) = 3689348814741910323 from rfl] at h1 h2
  rw [h1, h2, ← Int.natCast_add]
  exact u64_in _ (by unfold oc2 at e; omega)
theorem st3 (x : Nat) (hx : x ≤ 1048576) : bits .and .u64 (IntKind.u64.wrap ((x : Int) / 16 + (x : Int))) 1085102592571150095 = ((oc3 x : Nat) : Int) := by
  have h1 := u64_and_nat (x / 16 + x) 1085102592571150095 (by omega) (by decide)
  rw [u64_in _ (by omega), show ((x : Int) / 16 + (x : Int)) = ((x / 16 + x : Nat) : Int) from by omega]
  exact h1
theorem st4 (x : Nat) (hx : x ≤ 1048576) : IntKind.u64.wrap ((x : Int) + (x : Int) / 256) = ((oc4 x : Nat) : Int) := by
  rw [u64_in _ (by omega)]; unfold oc4; omega
theorem st5 (x : Nat) (hx : x ≤ 1048576) : IntKind.u64.wrap ((x : Int) + (x : Int) / 65536) = ((oc5 x : Nat) : Int) := by
  rw [u64_in _ (by omega)]; unfold oc5; omega
theorem st6 (x : Nat) (hx : x ≤ 1048576) : IntKind.u64.wrap ((x : Int) + (x : Int) / 4294967296) = ((oc6 x : Nat) : Int) := by
  rw [u64_in _ (by omega)]; unfold oc6; omega

set_option maxHeartbeats 1000000 in
theorem onesCount64_c (x : Nat) (w : World) (hx : x < 1024) : Calls Tryz.prog 58 #[.int .u64 x] w (Quiet w (.int .i64 ((ocAll x : Nat) : Int))) := by
  have b1 := oc1_le x
  have b2 := oc2_le (oc1 x)
  have b3 := oc3_le (oc2 (oc1 x))
  have b4 : oc4 (oc3 (oc2 (oc1 x))) ≤ 2 * oc3 (oc2 (oc1 x)) := by unfold oc4; omega
  have b5 : oc5 (oc4 (oc3 (oc2 (oc1 x)))) ≤ 2 * oc4 (oc3 (oc2 (oc1 x))) := by unfold oc5; omega
  have b6 : oc6 (oc5 (oc4 (oc3 (oc2 (oc1 x))))) ≤ 2 * oc5 (oc4 (oc3 (oc2 (oc1 x)))) := by unfold oc6; omega
  have h6 := i64_and_nat (oc6 (oc5 (oc4 (oc3 (oc2 (oc1 x)))))) 127 (by omega) (by decide)
  have k1 := st1 x (by omega)
  have k2 := st2 (oc1 x) (by omega)
  have k3 := st3 (oc2 (oc1 x)) (by omega)
  have k4 := st4 (oc3 (oc2 (oc1 x))) (by omega)
  have k5 := st5 (oc4 (oc3 (oc2 (oc1 x)))) (by omega)
  have k6 := st6 (oc5 (oc4 (oc3 (oc2 (oc1 x))))) (by omega)
  have hb6 : oc6 (oc5 (oc4 (oc3 (oc2 (oc1 x))))) ≤ 1048576 := by omega
  have hA : ocAll x = oc6 (oc5 (oc4 (oc3 (oc2 (oc1 x))))) &&& 127 := rfl
  clear b1 b2 b3 b4 b5 b6
  have K1 := Lib.hid k1
  have K2 := Lib.hid k2
  have K3 := Lib.hid k3
  have K4 := Lib.hid k4
  have K5 := Lib.hid k5
  have K6 := Lib.hid k6
  have H6 := Lib.hid h6
  have HA := Lib.hid hA
  clear k1 k2 k3 k4 k5 k6 h6 hA
  go_enter Tryz.func58, Tryz.ntmps58
  go_wp2
  rw [K1.out, K2.out, K3.out, K4.out, K5.out, K6.out]
  go_ret
  refine ⟨ret_int ?_, Dr.refl _⟩
  have hw : wrap64 ((oc6 (oc5 (oc4 (oc3 (oc2 (oc1 x))))) : Nat) : Int) = ((oc6 (oc5 (oc4 (oc3 (oc2 (oc1 x))))) : Nat) : Int) := by
    unfold wrap64
    generalize oc6 (oc5 (oc4 (oc3 (oc2 (oc1 x))))) = z at hb6
    omega
  rw [hw, HA.out]
  exact H6.out

set_option maxHeartbeats 1000000 in
theorem onesCount_c (x : Nat) (w : World) (hx : x < 1024) : Calls Tryz.prog 43 #[.int .u64 x] w (Quiet w (.int .i64 (((bitsF 10 0 x).length : Nat) : Int))) := by
  have h := onesCount64_c x w hx
  rw [ocAll_bits x hx] at h
  generalize hR : (bitsF 10 0 x).length = R
  have HR := Lib.hid hR
  clear hR
  have H := Lib.hid h
  clear h
  go_enter Tryz.func43, Tryz.ntmps43
  go_wp2_with fail
  refine H.out.mono ?_
  rintro e w1 ⟨rfl, hq⟩
  go_wp2
  go_ret
  exact ⟨ret_int (by rw [HR.out]), hq⟩
end Go.Proofs.YtfkccgblgjpalaaGreat
