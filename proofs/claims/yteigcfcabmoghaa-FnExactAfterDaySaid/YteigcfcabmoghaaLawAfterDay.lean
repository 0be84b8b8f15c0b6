/- For all points, games and endings the program's AfterDay returns what the reference's returns, in new memory each time; the law returns true and leaves its arguments as they were.
   Conditions: none. -/
import Derived.Test.YteigcfcabmoghaaDayA
import Derived.Test.YteigcfcabmoghaaCap
namespace Go.Proofs.Yteigcfcabmoghaa
theorem afterDayF_len (points : List Int) (games : List (List Int)) (ending : List Int) (h : points.length ≤ 1048576) : (afterDayF points games ending).length ≤ 1048576 := by
  unfold afterDayF
  split
  · rw [afterD_len]; exact h
  · simp
end Go.Proofs.Yteigcfcabmoghaa
namespace Go.Proofs.Yteigcfcabmoghaa
open Go.ChangeShapes Go.WideShapes Go.ChangeAt Go.RowKit
open Go.ChangeMaps (open_string shut_string)
set_option linter.unusedVariables false

set_option maxHeartbeats 4000000 in
theorem fnExactAfterDay_walk (w : World) (A0 : Option Addr) (c0 : Nat) (x0 : List Int) (g0 : Ints w A0 x0) (l0 : x0.length ≤ c0) (m0 : c0 ≤ maxLen) (z0 : ∀ x ∈ x0, I64 x) (A1 : Option Addr) (c1 : Nat) (x1 : List (List Int)) (g1 : Rows w A1 x1) (l1 : x1.length ≤ c1) (m1 : c1 ≤ maxLen) (z1 : ∀ xs ∈ x1, ∀ x ∈ xs, I64 x) (A2 : Option Addr) (c2 : Nat) (x2 : List Int) (g2 : Ints w A2 x2) (l2 : x2.length ≤ c2) (m2 : c2 ≤ maxLen) (z2 : ∀ x ∈ x2, I64 x) :
    Calls Try.prog 4 #[.slice A0 x0.length c0, .slice A1 x1.length c1, .slice A2 x2.length c2] w fun e w' => e = .returned (.bool true) ∧ Below w.heap.size w w' := by
  have q0 : Hid (Below w.heap.size w w) := Lib.hid (Below.refl _ _)
  have L0 := Lib.hid (Nat.le_trans l0 m0)
  have L1 := Lib.hid (Nat.le_trans l1 m1)
  have L2 := Lib.hid (Nat.le_trans l2 m2)
  have G0 := Lib.hid g0
  have G1 := Lib.hid g1
  have G2 := Lib.hid g2
  have Z0 := Lib.hid z0
  have Z1 := Lib.hid z1
  have Z2 := Lib.hid z2
  clear g0 l0 m0 z0 g1 l1 m1 z1 g2 l2 m2 z2
  by_cases hb0 : 1048576 < x0.length
  · go_enter Try.func4, Try.ntmps4
    go_wp2
    go_ret
    exact ⟨rfl, q0.out⟩
  · have hb0' : x0.length ≤ 1048576 := by omega
    by_cases hb2 : 1048576 < x2.length
    · go_enter Try.func4, Try.ntmps4
      go_wp2
      go_ret
      exact ⟨rfl, q0.out⟩
    · have hb2' : x2.length ≤ 1048576 := by omega
      have hz1 : szRows x1 (1048576 : Int) ≤ 1048576 := by have := szRows_le x1 (1048576 : Int); omega
      by_cases hs1 : szRows x1 (1048576 : Int) < 0
      · generalize hS1 : szRows x1 (1048576 : Int) = S1 at hs1 hz1
        have HS1 := Lib.hid hS1
        clear hS1
        go_enter Try.func4, Try.ntmps4
        go_wp2_with fail
        refine (calls_v (szIntSS_c _ _ _ _ _ G1.out L1.out (by omega) (by omega)) (congrArg (Value.int .i64) HS1.out)).mono ?_
        rintro e w1 ⟨rfl, u1, rfl⟩
        go_wp2
        go_ret
        exact ⟨rfl, q0.out.trans (below_drewN _ _ _)⟩
      · have B1 := Lib.hid (bdR_of (l := (1048576 : Int)) (by omega) (by omega) Z1.out : BdR x1)
        generalize hS1 : szRows x1 (1048576 : Int) = S1 at hs1 hz1
        have HS1 := Lib.hid hS1
        clear hS1
        have hs1' : 0 ≤ S1 := by omega
        clear hs1
        have B0 : Hid (BdI x0) := Lib.hid ⟨by omega, Z0.out⟩
        have B2 : Hid (BdI x2) := Lib.hid ⟨by omega, Z2.out⟩
        have nx0 : x0.length ≤ 1048576 := B0.out.1
        have nx1 : x1.length ≤ 1048576 := B1.out.1
        have nx2 : x2.length ≤ 1048576 := B2.out.1
        have tx1 : total x1 ≤ 1048576 := B1.out.2.1
        have vlen : (afterDayF x0 x1 x2).length ≤ 1048576 := afterDayF_len _ _ _ B0.out.1
        generalize hV : afterDayF x0 x1 x2 = V at vlen
        have HV := Lib.hid hV
        clear hV
        go_enter Try.func4, Try.ntmps4
        go_wp2_with fail
        refine (calls_v (szIntSS_c _ _ _ _ _ (G1.out.keep (keep_of_below q0.out)) L1.out (by omega) (by omega)) (congrArg (Value.int .i64) HS1.out)).mono ?_
        rintro e ws1 ⟨rfl, hq⟩
        have s1 : w.heap.size ≤ ws1.heap.size := Below.size (hq.below w.heap.size)
        have q1 := Lib.hid (q0.out.trans (Below.mono (hq.below w.heap.size) q0.out.size))
        clear hq
        go_wp2_with fail
        refine (toIntS_c _ _ _ _ (G0.out.keep (keep_of_below q1.out)) B0.out.1).mono ?_
        rintro e wc1 ⟨C1, d1, rfl, ho1, hb1⟩
        have s2 : ws1.heap.size ≤ wc1.heap.size := Below.size hb1
        have q2 := Lib.hid (q1.out.trans (Below.mono hb1 q1.out.size))
        have O1 := Lib.hid ho1
        clear ho1 hb1
        go_wp2_with fail
        refine (toIntSS_c _ _ _ _ (G1.out.keep (keep_of_below q2.out)) B1.out.1 (fun xs h => (B1.out.2.2 xs h).1)).mono ?_
        rintro e wc2 ⟨C2, d2, rfl, ho2, hb2⟩
        have s3 : wc1.heap.size ≤ wc2.heap.size := Below.size hb2
        have q3 := Lib.hid (q2.out.trans (Below.mono hb2 q2.out.size))
        have O1_3 := Lib.hid (O1.out.below (Below.mono hb2 (by omega : wc1.heap.size ≤ wc1.heap.size)))
        have O2 := Lib.hid ho2
        clear ho2 hb2
        go_wp2_with fail
        refine (toIntS_c _ _ _ _ (G2.out.keep (keep_of_below q3.out)) B2.out.1).mono ?_
        rintro e wc3 ⟨C3, d3, rfl, ho3, hb3⟩
        have s4 : wc2.heap.size ≤ wc3.heap.size := Below.size hb3
        have q4 := Lib.hid (q3.out.trans (Below.mono hb3 q3.out.size))
        have O1_4 := Lib.hid (O1_3.out.below (Below.mono hb3 (by omega : wc1.heap.size ≤ wc2.heap.size)))
        have O2_4 := Lib.hid (O2.out.below (Below.mono hb3 (by omega : wc2.heap.size ≤ wc2.heap.size)))
        have O3 := Lib.hid ho3
        clear ho3 hb3
        go_wp2_with fail
        refine (givesI_v (sAfterDay_c _ _ _ _ _ _ _ _ _ _ O1_4.out.ints O2_4.out.rows O3.out.ints B0.out.1 B2.out.1) HV.out).mono ?_
        rintro e wr4 ⟨C4, d4, rfl, ho4, hb4⟩
        have s5 : wc3.heap.size ≤ wr4.heap.size := Below.size hb4
        have q5 := Lib.hid (q4.out.trans (Below.mono hb4 q4.out.size))
        have O1_5 := Lib.hid (O1_4.out.below (Below.mono hb4 (by omega : wc1.heap.size ≤ wc3.heap.size)))
        have O2_5 := Lib.hid (O2_4.out.below (Below.mono hb4 (by omega : wc2.heap.size ≤ wc3.heap.size)))
        have O3_5 := Lib.hid (O3.out.below (Below.mono hb4 (by omega : wc3.heap.size ≤ wc3.heap.size)))
        have O4 := Lib.hid ho4
        clear ho4 hb4
        go_wp2_with fail
        refine (toIntS_c _ _ _ _ (G0.out.keep (keep_of_below q5.out)) B0.out.1).mono ?_
        rintro e wc5 ⟨C5, d5, rfl, ho5, hb5⟩
        have s6 : wr4.heap.size ≤ wc5.heap.size := Below.size hb5
        have q6 := Lib.hid (q5.out.trans (Below.mono hb5 q5.out.size))
        have O4_6 := Lib.hid (O4.out.below (Below.mono hb5 (by omega : wr4.heap.size ≤ wr4.heap.size)))
        have O5 := Lib.hid ho5
        clear ho5 hb5
        go_wp2_with fail
        refine (toIntSS_c _ _ _ _ (G1.out.keep (keep_of_below q6.out)) B1.out.1 (fun xs h => (B1.out.2.2 xs h).1)).mono ?_
        rintro e wc6 ⟨C6, d6, rfl, ho6, hb6⟩
        have s7 : wc5.heap.size ≤ wc6.heap.size := Below.size hb6
        have q7 := Lib.hid (q6.out.trans (Below.mono hb6 q6.out.size))
        have O4_7 := Lib.hid (O4_6.out.below (Below.mono hb6 (by omega : wr4.heap.size ≤ wc5.heap.size)))
        have O5_7 := Lib.hid (O5.out.below (Below.mono hb6 (by omega : wc5.heap.size ≤ wc5.heap.size)))
        have O6 := Lib.hid ho6
        clear ho6 hb6
        go_wp2_with fail
        refine (toIntS_c _ _ _ _ (G2.out.keep (keep_of_below q7.out)) B2.out.1).mono ?_
        rintro e wc7 ⟨C7, d7, rfl, ho7, hb7⟩
        have s8 : wc6.heap.size ≤ wc7.heap.size := Below.size hb7
        have q8 := Lib.hid (q7.out.trans (Below.mono hb7 q7.out.size))
        have O4_8 := Lib.hid (O4_7.out.below (Below.mono hb7 (by omega : wr4.heap.size ≤ wc6.heap.size)))
        have O5_8 := Lib.hid (O5_7.out.below (Below.mono hb7 (by omega : wc5.heap.size ≤ wc6.heap.size)))
        have O6_8 := Lib.hid (O6.out.below (Below.mono hb7 (by omega : wc6.heap.size ≤ wc6.heap.size)))
        have O7 := Lib.hid ho7
        clear ho7 hb7
        go_wp2_with fail
        refine (givesI_v (iAfterDay_c _ _ _ _ _ _ _ _ _ _ O5_8.out.ints O6_8.out.rows O7.out.ints B0.out.1 B2.out.1) HV.out).mono ?_
        rintro e wr8 ⟨C8, d8, rfl, ho8, hb8⟩
        have s9 : wc7.heap.size ≤ wr8.heap.size := Below.size hb8
        have q9 := Lib.hid (q8.out.trans (Below.mono hb8 q8.out.size))
        have O4_9 := Lib.hid (O4_8.out.below (Below.mono hb8 (by omega : wr4.heap.size ≤ wc7.heap.size)))
        have O5_9 := Lib.hid (O5_8.out.below (Below.mono hb8 (by omega : wc5.heap.size ≤ wc7.heap.size)))
        have O6_9 := Lib.hid (O6_8.out.below (Below.mono hb8 (by omega : wc6.heap.size ≤ wc7.heap.size)))
        have O7_9 := Lib.hid (O7.out.below (Below.mono hb8 (by omega : wc7.heap.size ≤ wc7.heap.size)))
        have O8 := Lib.hid ho8
        clear ho8 hb8
        go_wp2_with fail
        refine (calls_v (eqIntS_c _ _ _ _ _ _ _ (O8.out.ints) (O4_9.out.ints) (by unfold maxLen; omega)) (congrArg Value.bool (decide_eq_true rfl))).mono ?_
        rintro e we9 ⟨rfl, hq⟩
        have s10 : wr8.heap.size ≤ we9.heap.size := Below.size (hq.below wr8.heap.size)
        have q10 := Lib.hid (q9.out.trans (Below.mono (hq.below wr8.heap.size) q9.out.size))
        have O4_10 := Lib.hid (O4_9.out.below (Below.mono (hq.below wr8.heap.size) (by omega : wr4.heap.size ≤ wr8.heap.size)))
        have O5_10 := Lib.hid (O5_9.out.below (Below.mono (hq.below wr8.heap.size) (by omega : wc5.heap.size ≤ wr8.heap.size)))
        have O6_10 := Lib.hid (O6_9.out.below (Below.mono (hq.below wr8.heap.size) (by omega : wc6.heap.size ≤ wr8.heap.size)))
        have O7_10 := Lib.hid (O7_9.out.below (Below.mono (hq.below wr8.heap.size) (by omega : wc7.heap.size ≤ wr8.heap.size)))
        have O8_10 := Lib.hid (O8.out.below (Below.mono (hq.below wr8.heap.size) (by omega : wr8.heap.size ≤ wr8.heap.size)))
        clear hq
        go_wp2_with fail
        refine (toIntS_c _ _ _ _ (G0.out.keep (keep_of_below q10.out)) B0.out.1).mono ?_
        rintro e wc10 ⟨C10, d10, rfl, ho10, hb10⟩
        have s11 : we9.heap.size ≤ wc10.heap.size := Below.size hb10
        have q11 := Lib.hid (q10.out.trans (Below.mono hb10 q10.out.size))
        have O4_11 := Lib.hid (O4_10.out.below (Below.mono hb10 (by omega : wr4.heap.size ≤ we9.heap.size)))
        have O5_11 := Lib.hid (O5_10.out.below (Below.mono hb10 (by omega : wc5.heap.size ≤ we9.heap.size)))
        have O6_11 := Lib.hid (O6_10.out.below (Below.mono hb10 (by omega : wc6.heap.size ≤ we9.heap.size)))
        have O7_11 := Lib.hid (O7_10.out.below (Below.mono hb10 (by omega : wc7.heap.size ≤ we9.heap.size)))
        have O8_11 := Lib.hid (O8_10.out.below (Below.mono hb10 (by omega : wr8.heap.size ≤ we9.heap.size)))
        have O10 := Lib.hid ho10
        clear ho10 hb10
        go_wp2_with fail
        refine (calls_v (eqIntS_c _ _ _ _ _ _ _ (O5_11.out.ints) (O10.out.ints) (by unfold maxLen; omega)) (congrArg Value.bool (decide_eq_true rfl))).mono ?_
        rintro e we11 ⟨rfl, hq⟩
        have s12 : wc10.heap.size ≤ we11.heap.size := Below.size (hq.below wc10.heap.size)
        have q12 := Lib.hid (q11.out.trans (Below.mono (hq.below wc10.heap.size) q11.out.size))
        have O4_12 := Lib.hid (O4_11.out.below (Below.mono (hq.below wc10.heap.size) (by omega : wr4.heap.size ≤ wc10.heap.size)))
        have O5_12 := Lib.hid (O5_11.out.below (Below.mono (hq.below wc10.heap.size) (by omega : wc5.heap.size ≤ wc10.heap.size)))
        have O6_12 := Lib.hid (O6_11.out.below (Below.mono (hq.below wc10.heap.size) (by omega : wc6.heap.size ≤ wc10.heap.size)))
        have O7_12 := Lib.hid (O7_11.out.below (Below.mono (hq.below wc10.heap.size) (by omega : wc7.heap.size ≤ wc10.heap.size)))
        have O8_12 := Lib.hid (O8_11.out.below (Below.mono (hq.below wc10.heap.size) (by omega : wr8.heap.size ≤ wc10.heap.size)))
        have O10_12 := Lib.hid (O10.out.below (Below.mono (hq.below wc10.heap.size) (by omega : wc10.heap.size ≤ wc10.heap.size)))
        clear hq
        go_wp2_with fail
        refine (toIntSS_c _ _ _ _ (G1.out.keep (keep_of_below q12.out)) B1.out.1 (fun xs h => (B1.out.2.2 xs h).1)).mono ?_
        rintro e wc12 ⟨C12, d12, rfl, ho12, hb12⟩
        have s13 : we11.heap.size ≤ wc12.heap.size := Below.size hb12
        have q13 := Lib.hid (q12.out.trans (Below.mono hb12 q12.out.size))
        have O4_13 := Lib.hid (O4_12.out.below (Below.mono hb12 (by omega : wr4.heap.size ≤ we11.heap.size)))
        have O5_13 := Lib.hid (O5_12.out.below (Below.mono hb12 (by omega : wc5.heap.size ≤ we11.heap.size)))
        have O6_13 := Lib.hid (O6_12.out.below (Below.mono hb12 (by omega : wc6.heap.size ≤ we11.heap.size)))
        have O7_13 := Lib.hid (O7_12.out.below (Below.mono hb12 (by omega : wc7.heap.size ≤ we11.heap.size)))
        have O8_13 := Lib.hid (O8_12.out.below (Below.mono hb12 (by omega : wr8.heap.size ≤ we11.heap.size)))
        have O12 := Lib.hid ho12
        clear ho12 hb12
        go_wp2_with fail
        refine (calls_v (eqIntSS_c _ _ _ _ _ _ _ (O6_13.out.rows) (O12.out.rows) (by unfold maxLen; omega)) (congrArg Value.bool (decide_eq_true rfl))).mono ?_
        rintro e we13 ⟨rfl, hq⟩
        have s14 : wc12.heap.size ≤ we13.heap.size := Below.size (hq.below wc12.heap.size)
        have q14 := Lib.hid (q13.out.trans (Below.mono (hq.below wc12.heap.size) q13.out.size))
        have O4_14 := Lib.hid (O4_13.out.below (Below.mono (hq.below wc12.heap.size) (by omega : wr4.heap.size ≤ wc12.heap.size)))
        have O5_14 := Lib.hid (O5_13.out.below (Below.mono (hq.below wc12.heap.size) (by omega : wc5.heap.size ≤ wc12.heap.size)))
        have O6_14 := Lib.hid (O6_13.out.below (Below.mono (hq.below wc12.heap.size) (by omega : wc6.heap.size ≤ wc12.heap.size)))
        have O7_14 := Lib.hid (O7_13.out.below (Below.mono (hq.below wc12.heap.size) (by omega : wc7.heap.size ≤ wc12.heap.size)))
        have O8_14 := Lib.hid (O8_13.out.below (Below.mono (hq.below wc12.heap.size) (by omega : wr8.heap.size ≤ wc12.heap.size)))
        have O12_14 := Lib.hid (O12.out.below (Below.mono (hq.below wc12.heap.size) (by omega : wc12.heap.size ≤ wc12.heap.size)))
        clear hq
        go_wp2_with fail
        refine (toIntS_c _ _ _ _ (G2.out.keep (keep_of_below q14.out)) B2.out.1).mono ?_
        rintro e wc14 ⟨C14, d14, rfl, ho14, hb14⟩
        have s15 : we13.heap.size ≤ wc14.heap.size := Below.size hb14
        have q15 := Lib.hid (q14.out.trans (Below.mono hb14 q14.out.size))
        have O4_15 := Lib.hid (O4_14.out.below (Below.mono hb14 (by omega : wr4.heap.size ≤ we13.heap.size)))
        have O5_15 := Lib.hid (O5_14.out.below (Below.mono hb14 (by omega : wc5.heap.size ≤ we13.heap.size)))
        have O6_15 := Lib.hid (O6_14.out.below (Below.mono hb14 (by omega : wc6.heap.size ≤ we13.heap.size)))
        have O7_15 := Lib.hid (O7_14.out.below (Below.mono hb14 (by omega : wc7.heap.size ≤ we13.heap.size)))
        have O8_15 := Lib.hid (O8_14.out.below (Below.mono hb14 (by omega : wr8.heap.size ≤ we13.heap.size)))
        have O14 := Lib.hid ho14
        clear ho14 hb14
        go_wp2_with fail
        refine (calls_v (eqIntS_c _ _ _ _ _ _ _ (O7_15.out.ints) (O14.out.ints) (by unfold maxLen; omega)) (congrArg Value.bool (decide_eq_true rfl))).mono ?_
        rintro e we15 ⟨rfl, hq⟩
        have s16 : wc14.heap.size ≤ we15.heap.size := Below.size (hq.below wc14.heap.size)
        have q16 := Lib.hid (q15.out.trans (Below.mono (hq.below wc14.heap.size) q15.out.size))
        have O4_16 := Lib.hid (O4_15.out.below (Below.mono (hq.below wc14.heap.size) (by omega : wr4.heap.size ≤ wc14.heap.size)))
        have O5_16 := Lib.hid (O5_15.out.below (Below.mono (hq.below wc14.heap.size) (by omega : wc5.heap.size ≤ wc14.heap.size)))
        have O6_16 := Lib.hid (O6_15.out.below (Below.mono (hq.below wc14.heap.size) (by omega : wc6.heap.size ≤ wc14.heap.size)))
        have O7_16 := Lib.hid (O7_15.out.below (Below.mono (hq.below wc14.heap.size) (by omega : wc7.heap.size ≤ wc14.heap.size)))
        have O8_16 := Lib.hid (O8_15.out.below (Below.mono (hq.below wc14.heap.size) (by omega : wr8.heap.size ≤ wc14.heap.size)))
        have O14_16 := Lib.hid (O14.out.below (Below.mono (hq.below wc14.heap.size) (by omega : wc14.heap.size ≤ wc14.heap.size)))
        clear hq
        go_wp2_with fail
        refine (markIntS_c _ _ _ _ _ _ _ O5_16.out (by omega) (by omega) (by omega)).mono ?_
        rintro e wm16 ⟨rfl, ho16, hy16⟩
        have s17 : we15.heap.size ≤ wm16.heap.size := Only.size hy16
        have q17 := Lib.hid (q16.out.trans (below_of_only hy16 (by omega) q16.out.size))
        have O4_17 := Lib.hid (O4_16.out.only hy16 (by omega) (by omega))
        have O6_17 := Lib.hid (O6_16.out.only hy16 (by omega) (by omega))
        have O7_17 := Lib.hid (O7_16.out.only hy16 (by omega) (by omega))
        have O8_17 := Lib.hid (O8_16.out.only hy16 (by omega) (by omega))
        have O5m := Lib.hid ho16
        clear ho16 hy16
        go_wp2_with fail
        refine (markIntSS_c _ _ _ _ _ _ _ O6_17.out (by omega) (by omega) (by omega) (by omega) (by omega)).mono ?_
        rintro e wm17 ⟨rfl, ho17, hy17⟩
        have s18 : wm16.heap.size ≤ wm17.heap.size := Only.size hy17
        have q18 := Lib.hid (q17.out.trans (below_of_only hy17 (by omega) q17.out.size))
        have O4_18 := Lib.hid (O4_17.out.only hy17 (by omega) (by omega))
        have O7_18 := Lib.hid (O7_17.out.only hy17 (by omega) (by omega))
        have O8_18 := Lib.hid (O8_17.out.only hy17 (by omega) (by omega))
        have O5m_18 := Lib.hid (O5m.out.only hy17 (by omega) (by omega))
        have O6m := Lib.hid ho17
        clear ho17 hy17
        go_wp2_with fail
        refine (markIntS_c _ _ _ _ _ _ _ O7_18.out (by omega) (by omega) (by omega)).mono ?_
        rintro e wm18 ⟨rfl, ho18, hy18⟩
        have s19 : wm17.heap.size ≤ wm18.heap.size := Only.size hy18
        have q19 := Lib.hid (q18.out.trans (below_of_only hy18 (by omega) q18.out.size))
        have O4_19 := Lib.hid (O4_18.out.only hy18 (by omega) (by omega))
        have O8_19 := Lib.hid (O8_18.out.only hy18 (by omega) (by omega))
        have O5m_19 := Lib.hid (O5m_18.out.only hy18 (by omega) (by omega))
        have O6m_19 := Lib.hid (O6m.out.only hy18 (by omega) (by omega))
        have O7m := Lib.hid ho18
        clear ho18 hy18
        go_wp2_with fail
        refine (calls_v (eqIntS_c _ _ _ _ _ _ _ (O8_19.out.ints) (O4_19.out.ints) (by unfold maxLen; omega)) (congrArg Value.bool (decide_eq_true rfl))).mono ?_
        rintro e we19 ⟨rfl, hq⟩
        have s20 : wm18.heap.size ≤ we19.heap.size := Below.size (hq.below wm18.heap.size)
        have q20 := Lib.hid (q19.out.trans (Below.mono (hq.below wm18.heap.size) q19.out.size))
        have O4_20 := Lib.hid (O4_19.out.below (Below.mono (hq.below wm18.heap.size) (by omega : wr4.heap.size ≤ wm18.heap.size)))
        have O8_20 := Lib.hid (O8_19.out.below (Below.mono (hq.below wm18.heap.size) (by omega : wr8.heap.size ≤ wm18.heap.size)))
        have O5m_20 := Lib.hid (O5m_19.out.below (Below.mono (hq.below wm18.heap.size) (by omega : wc5.heap.size ≤ wm18.heap.size)))
        have O6m_20 := Lib.hid (O6m_19.out.below (Below.mono (hq.below wm18.heap.size) (by omega : wc6.heap.size ≤ wm18.heap.size)))
        have O7m_20 := Lib.hid (O7m.out.below (Below.mono (hq.below wm18.heap.size) (by omega : wc7.heap.size ≤ wm18.heap.size)))
        clear hq
        go_wp2_with fail
        refine (markIntS_c _ _ _ _ _ _ _ O8_20.out (by omega) (by omega) (by omega)).mono ?_
        rintro e wm20 ⟨rfl, ho20, hy20⟩
        have s21 : we19.heap.size ≤ wm20.heap.size := Only.size hy20
        have q21 := Lib.hid (q20.out.trans (below_of_only hy20 (by omega) q20.out.size))
        have O4_21 := Lib.hid (O4_20.out.only hy20 (by omega) (by omega))
        have O8m := Lib.hid ho20
        clear ho20 hy20
        go_wp2_with fail
        refine (heldIntS_c _ _ _ _ _ (O8m.out.ints) (by omega) (by omega) (by omega)).mono ?_
        rintro e wh21 ⟨rfl, hq⟩
        have s22 : wm20.heap.size ≤ wh21.heap.size := Below.size (hq.below wm20.heap.size)
        have q22 := Lib.hid (q21.out.trans (Below.mono (hq.below wm20.heap.size) q21.out.size))
        have O4_22 := Lib.hid (O4_21.out.below (Below.mono (hq.below wm20.heap.size) (by omega : wr4.heap.size ≤ wm20.heap.size)))
        have O8m_22 := Lib.hid (O8m.out.below (Below.mono (hq.below wm20.heap.size) (by omega : wr8.heap.size ≤ wm20.heap.size)))
        clear hq
        go_wp2_with fail
        refine (toIntS_c _ _ _ _ (G0.out.keep (keep_of_below q22.out)) B0.out.1).mono ?_
        rintro e wc22 ⟨C22, d22, rfl, ho22, hb22⟩
        have s23 : wh21.heap.size ≤ wc22.heap.size := Below.size hb22
        have q23 := Lib.hid (q22.out.trans (Below.mono hb22 q22.out.size))
        have O4_23 := Lib.hid (O4_22.out.below (Below.mono hb22 (by omega : wr4.heap.size ≤ wh21.heap.size)))
        have O8m_23 := Lib.hid (O8m_22.out.below (Below.mono hb22 (by omega : wr8.heap.size ≤ wh21.heap.size)))
        have O22 := Lib.hid ho22
        clear ho22 hb22
        go_wp2_with fail
        refine (toIntSS_c _ _ _ _ (G1.out.keep (keep_of_below q23.out)) B1.out.1 (fun xs h => (B1.out.2.2 xs h).1)).mono ?_
        rintro e wc23 ⟨C23, d23, rfl, ho23, hb23⟩
        have s24 : wc22.heap.size ≤ wc23.heap.size := Below.size hb23
        have q24 := Lib.hid (q23.out.trans (Below.mono hb23 q23.out.size))
        have O4_24 := Lib.hid (O4_23.out.below (Below.mono hb23 (by omega : wr4.heap.size ≤ wc22.heap.size)))
        have O8m_24 := Lib.hid (O8m_23.out.below (Below.mono hb23 (by omega : wr8.heap.size ≤ wc22.heap.size)))
        have O22_24 := Lib.hid (O22.out.below (Below.mono hb23 (by omega : wc22.heap.size ≤ wc22.heap.size)))
        have O23 := Lib.hid ho23
        clear ho23 hb23
        go_wp2_with fail
        refine (toIntS_c _ _ _ _ (G2.out.keep (keep_of_below q24.out)) B2.out.1).mono ?_
        rintro e wc24 ⟨C24, d24, rfl, ho24, hb24⟩
        have s25 : wc23.heap.size ≤ wc24.heap.size := Below.size hb24
        have q25 := Lib.hid (q24.out.trans (Below.mono hb24 q24.out.size))
        have O4_25 := Lib.hid (O4_24.out.below (Below.mono hb24 (by omega : wr4.heap.size ≤ wc23.heap.size)))
        have O8m_25 := Lib.hid (O8m_24.out.below (Below.mono hb24 (by omega : wr8.heap.size ≤ wc23.heap.size)))
        have O22_25 := Lib.hid (O22_24.out.below (Below.mono hb24 (by omega : wc22.heap.size ≤ wc23.heap.size)))
        have O23_25 := Lib.hid (O23.out.below (Below.mono hb24 (by omega : wc23.heap.size ≤ wc23.heap.size)))
        have O24 := Lib.hid ho24
        clear ho24 hb24
        go_wp2_with fail
        refine (givesI_v (iAfterDay_c _ _ _ _ _ _ _ _ _ _ O22_25.out.ints O23_25.out.rows O24.out.ints B0.out.1 B2.out.1) HV.out).mono ?_
        rintro e wr25 ⟨C25, d25, rfl, ho25, hb25⟩
        have s26 : wc24.heap.size ≤ wr25.heap.size := Below.size hb25
        have q26 := Lib.hid (q25.out.trans (Below.mono hb25 q25.out.size))
        have O4_26 := Lib.hid (O4_25.out.below (Below.mono hb25 (by omega : wr4.heap.size ≤ wc24.heap.size)))
        have O8m_26 := Lib.hid (O8m_25.out.below (Below.mono hb25 (by omega : wr8.heap.size ≤ wc24.heap.size)))
        have O22_26 := Lib.hid (O22_25.out.below (Below.mono hb25 (by omega : wc22.heap.size ≤ wc24.heap.size)))
        have O23_26 := Lib.hid (O23_25.out.below (Below.mono hb25 (by omega : wc23.heap.size ≤ wc24.heap.size)))
        have O24_26 := Lib.hid (O24.out.below (Below.mono hb25 (by omega : wc24.heap.size ≤ wc24.heap.size)))
        have O25 := Lib.hid ho25
        clear ho25 hb25
        go_wp2_with fail
        refine (calls_v (eqIntS_c _ _ _ _ _ _ _ (O25.out.ints) (O4_26.out.ints) (by unfold maxLen; omega)) (congrArg Value.bool (decide_eq_true rfl))).mono ?_
        rintro e we26 ⟨rfl, hq⟩
        have s27 : wr25.heap.size ≤ we26.heap.size := Below.size (hq.below wr25.heap.size)
        have q27 := Lib.hid (q26.out.trans (Below.mono (hq.below wr25.heap.size) q26.out.size))
        have O4_27 := Lib.hid (O4_26.out.below (Below.mono (hq.below wr25.heap.size) (by omega : wr4.heap.size ≤ wr25.heap.size)))
        have O8m_27 := Lib.hid (O8m_26.out.below (Below.mono (hq.below wr25.heap.size) (by omega : wr8.heap.size ≤ wr25.heap.size)))
        have O25_27 := Lib.hid (O25.out.below (Below.mono (hq.below wr25.heap.size) (by omega : wr25.heap.size ≤ wr25.heap.size)))
        clear hq
        go_wp2_with fail
        refine (heldIntS_c _ _ _ _ _ (O8m_27.out.ints) (by omega) (by omega) (by omega)).mono ?_
        rintro e wh27 ⟨rfl, hq⟩
        have s28 : we26.heap.size ≤ wh27.heap.size := Below.size (hq.below we26.heap.size)
        have q28 := Lib.hid (q27.out.trans (Below.mono (hq.below we26.heap.size) q27.out.size))
        have O4_28 := Lib.hid (O4_27.out.below (Below.mono (hq.below we26.heap.size) (by omega : wr4.heap.size ≤ we26.heap.size)))
        have O8m_28 := Lib.hid (O8m_27.out.below (Below.mono (hq.below we26.heap.size) (by omega : wr8.heap.size ≤ we26.heap.size)))
        have O25_28 := Lib.hid (O25_27.out.below (Below.mono (hq.below we26.heap.size) (by omega : wr25.heap.size ≤ we26.heap.size)))
        clear hq
        go_wp2
        go_ret
        exact ⟨rfl, q28.out⟩

set_option maxRecDepth 100000 in
theorem fnExactAfterDay_lifted (os : Os) (started : os.Started) (H : Type) (enc : TypeId × Value → H) :
    ReturnsInHanded {} Try.checked os 4 .any (Rows.fnExactAfterDaySpec.pre6 enc Try.prog Try.f4 Rows.fnExactAfterDayRow.domain false) (Rows.fnExactAfterDaySpec.post enc Try.prog Try.f4 false true false false) := by
  refine returnsInHanded_of_change (C := Try.checked) own_knob started (by kernel_rfl) Try.func4
    (ChangeSpec.witness6 (enc := enc) (C := Try.checked) false ⟨#[], #[.slice none 0 0, .slice none 0 0, .slice none 0 0], []⟩ 8 (by kernel_rfl) (by kernel_rfl) (by kernel_rfl) (by kernel_rfl)) ?_
  intro W base args ds gs before hval0 hW hcnd _
  have hval : ∀ (j : Nat) t v, Try.f4.params[j]? = some t → args[j]? = some v → Value.okWide Try.prog W .any base t v := hval0
  have hW' := hW
  obtain ⟨p, q, hA0, hV, rfl, hfz, hnd⟩ := hW
  have hA : DataW.TrodAll enc Try.prog W 0 (fun _ => true) true Try.f4.params.toList args.toList ds p := hA0
  rw [Try.params4] at hA hval
  obtain ⟨v0, vs0, d0, ds0, p0, q0, hargs, rfl, rfl, h0, r0⟩ := trodAll_cons hA
  obtain ⟨v1, vs1, d1, ds1, p1, q1, rfl, rfl, rfl, h1, r1⟩ := trodAll_cons r0
  obtain ⟨v2, vs2, d2, ds2, p2, q2, rfl, rfl, rfl, h2, r2⟩ := trodAll_cons r1
  obtain ⟨rfl, rfl, rfl⟩ := trodAll_nil r2
  obtain rfl : args = #[v0, v1, v2] := by cases args; simp_all
  obtain ⟨rfl, rfl⟩ := trodVars_none hV
  obtain ⟨a0, len0, cap0, rfl⟩ := okWide_slice Try.underlying22 (hval 0 22 v0 rfl rfl)
  have k0 := h0
  have lt0 : ∀ x ∈ p0, x.block < W.heap.size := by obtain ⟨m, hm⟩ := k0; exact DataW.trod_lt m _ _ _ hm
  obtain ⟨xs0, rfl, g0, l0, m0, z0⟩ := open_list Try.underlying22 Try.underlying3 (by kernel_rfl) h0
  obtain ⟨a1, len1, cap1, rfl⟩ := okWide_slice Try.underlying23 (hval 1 23 v1 rfl rfl)
  have k1 := h1
  have lt1 : ∀ x ∈ p1, x.block < W.heap.size := by obtain ⟨m, hm⟩ := k1; exact DataW.trod_lt m _ _ _ hm
  obtain ⟨xs1, rfl, g1, l1, m1, z1⟩ := open_lists Try.underlying23 Try.underlying22 Try.underlying3 (by kernel_rfl) (by kernel_rfl) h1
  obtain ⟨a2, len2, cap2, rfl⟩ := okWide_slice Try.underlying22 (hval 2 22 v2 rfl rfl)
  have k2 := h2
  have lt2 : ∀ x ∈ p2, x.block < W.heap.size := by obtain ⟨m, hm⟩ := k2; exact DataW.trod_lt m _ _ _ hm
  obtain ⟨xs2, rfl, g2, l2, m2, z2⟩ := open_list Try.underlying22 Try.underlying3 (by kernel_rfl) h2
  clear hA0 hval0
  refine (fnExactAfterDay_walk W a0 cap0 xs0 g0 l0 m0 z0 a1 cap1 xs1 g1 l1 m1 z1 a2 cap2 xs2 g2 l2 m2 z2).mono fun e W' ⟨he, bel⟩ => ?_
  subst he
  exact ⟨_, rfl, _, _, _, [], _, [], hW', trodAll_mk1 (shut_bool Try.underlying4 _), (trodAll_cons_mk (Below.trod laid_out (by kernel_rfl) (of_decide_eq_true (by kernel_rfl)) k0 bel lt0) (trodAll_cons_mk (Below.trod laid_out (by kernel_rfl) (of_decide_eq_true (by kernel_rfl)) k1 bel lt1) (trodAll_cons_mk (Below.trod laid_out (by kernel_rfl) (of_decide_eq_true (by kernel_rfl)) k2 bel lt2) trodAll_mk0))), rfl, bel.frame _, fun h => by cases h⟩

theorem fnExactAfterDay_holds : Rows.FnExactAfterDaySaid :=
  OpenClaim.holds_of_wide 4 Try.f4 rfl rfl rfl rfl rfl rfl rfl ⟨rfl, rfl, rfl, rfl, rfl⟩ rfl rfl rfl rfl rfl (by kernel_rfl) Try.func4 (by kernel_rfl)
    (of_decide_eq_true (by kernel_rfl)) (by unfold Func.isWrapper; first | (rw [if_pos (by decide +kernel)]; kernel_rfl) | (rw [if_neg (by decide +kernel)]; exact ⟨rfl, rfl⟩))
    (fun os started H enc _ => fnExactAfterDay_lifted os started H enc)
#print axioms fnExactAfterDay_holds

end Go.Proofs.Yteigcfcabmoghaa
