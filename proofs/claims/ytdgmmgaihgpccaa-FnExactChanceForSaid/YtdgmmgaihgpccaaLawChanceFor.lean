/- For all wins, games left and clubs the program's ChanceFor returns what the reference's returns, in new memory each time; the law returns true and leaves its arguments as they were.
   Conditions: none. -/
import Derived.Test.YtdgmmgaihgpccaaChanceS
import Derived.Test.YtdgmmgaihgpccaaCap
namespace Go.Proofs.Ytdgmmgaihgpccaa
theorem chanceFrom_row (club : Nat) (best : Int) : ∀ (left : List (List Int)) (now : List Int), ∀ xs ∈ chanceFrom club best now left, xs.length ≤ 2
  | [], _, xs, h => by simp [chanceFrom] at h
  | g :: L, now, xs, h => by
    rw [chanceFrom] at h
    rcases List.mem_cons.1 h with rfl | h
    · exact Nat.le_refl _
    · exact chanceFrom_row club best L _ xs h
theorem chanceF_len (wins : List Int) (left : List (List Int)) (k : Int) (h : left.length ≤ 1048576) : (chanceF wins left k).length ≤ 1048576 := by
  unfold chanceF
  split
  · rw [chanceFrom_len]; exact h
  · simp
theorem chanceF_tot (wins : List Int) (left : List (List Int)) (k : Int) (h : left.length ≤ 1048576) : total (chanceF wins left k) ≤ 4194304 := by
  unfold chanceF
  split
  · have h1 := total_bd (b := 2) (chanceFrom k.toNat (wins.getD k.toNat 0 + leftOf k.toNat 0 left) wins left) (chanceFrom_row _ _ _ _)
    rw [chanceFrom_len] at h1
    omega
  · simp [total]
end Go.Proofs.Ytdgmmgaihgpccaa
namespace Go.Proofs.Ytdgmmgaihgpccaa
open Go.ChangeShapes Go.WideShapes Go.ChangeAt Go.RowKit
open Go.ChangeMaps (open_string shut_string)
set_option linter.unusedVariables false

set_option maxHeartbeats 4000000 in
theorem fnExactChanceFor_walk (w : World) (A0 : Option Addr) (c0 : Nat) (x0 : List Int) (g0 : Ints w A0 x0) (l0 : x0.length ≤ c0) (m0 : c0 ≤ maxLen) (z0 : ∀ x ∈ x0, I64 x) (A1 : Option Addr) (c1 : Nat) (x1 : List (List Int)) (g1 : Rows w A1 x1) (l1 : x1.length ≤ c1) (m1 : c1 ≤ maxLen) (z1 : ∀ xs ∈ x1, ∀ x ∈ xs, I64 x) (a2 : Int) (w2 : I64 a2) :
    Calls Try.prog 11 #[.slice A0 x0.length c0, .slice A1 x1.length c1, .int .i64 a2] w fun e w' => e = .returned (.bool true) ∧ Below w.heap.size w w' := by
  have q0 : Hid (Below w.heap.size w w) := Lib.hid (Below.refl _ _)
  have L0 := Lib.hid (Nat.le_trans l0 m0)
  have L1 := Lib.hid (Nat.le_trans l1 m1)
  have G0 := Lib.hid g0
  have G1 := Lib.hid g1
  have Z0 := Lib.hid z0
  have Z1 := Lib.hid z1
  clear g0 l0 m0 z0 g1 l1 m1 z1
  have W2 := Lib.hid w2
  clear w2
  by_cases hb0 : 1048576 < x0.length
  · go_enter Try.func11, Try.ntmps11
    go_wp2
    go_ret
    exact ⟨rfl, q0.out⟩
  · have hb0' : x0.length ≤ 1048576 := by omega
    have hz1 : szRows x1 (1048576 : Int) ≤ 1048576 := by have := szRows_le x1 (1048576 : Int); omega
    by_cases hs1 : szRows x1 (1048576 : Int) < 0
    · generalize hS1 : szRows x1 (1048576 : Int) = S1 at hs1 hz1
      have HS1 := Lib.hid hS1
      clear hS1
      go_enter Try.func11, Try.ntmps11
      go_wp2_with fail
      refine (calls_v (szIntSS_c _ _ _ _ _ G1.out L1.out (by omega) (by omega)) (congrArg (Value.int .i64) HS1.out)).mono ?_
      rintro e w1 ⟨rfl, u1, rfl⟩
      go_wp2
      go_ret
      exact ⟨rfl, q0.out.trans (below_drewN _ _ _)⟩
    · have B1 := Lib.hid (bdR_of (l := (1048576 : Int)) (by omega) (by omega) Z1.out : BdR x1)
      generalize hS1 : szRows x1 (1048576 : Int) = S1 at hs1 hz1
      have HS1 := Lib.hid hS1
      clear hS1
      have hs1' : 0 ≤ S1 := by omega
      clear hs1
      have B0 : Hid (BdI x0) := Lib.hid ⟨by omega, Z0.out⟩
      have nx0 : x0.length ≤ 1048576 := B0.out.1
      have nx1 : x1.length ≤ 1048576 := B1.out.1
      have tx1 : total x1 ≤ 1048576 := B1.out.2.1
      have vlen : (chanceF x0 x1 a2).length ≤ 1048576 := chanceF_len _ _ _ nx1
      have vtot : total (chanceF x0 x1 a2) ≤ 4194304 := chanceF_tot _ _ _ nx1
      generalize hV : chanceF x0 x1 a2 = V at vlen vtot
      have HV := Lib.hid hV
      clear hV
      generalize hb2 : canF x0 x1 a2 = b2
      have HB := Lib.hid hb2
      clear hb2
      go_enter Try.func11, Try.ntmps11
      go_wp2_with fail
      refine (calls_v (szIntSS_c _ _ _ _ _ (G1.out.keep (keep_of_below q0.out)) L1.out (by omega) (by omega)) (congrArg (Value.int .i64) HS1.out)).mono ?_
      rintro e ws1 ⟨rfl, hq⟩
      have s1 : w.heap.size ≤ ws1.heap.size := Below.size (hq.below w.heap.size)
      have q1 := Lib.hid (q0.out.trans (Below.mono (hq.below w.heap.size) q0.out.size))
      clear hq
      go_wp2_with fail
      refine (toIntS_c _ _ _ _ (G0.out.keep (keep_of_below q1.out)) B0.out.1).mono ?_
      rintro e wc1 ⟨C1, d1, rfl, ho1, hb1⟩
      have s2 : ws1.heap.size ≤ wc1.heap.size := Below.size hb1
      have q2 := Lib.hid (q1.out.trans (Below.mono hb1 q1.out.size))
      have O1 := Lib.hid ho1
      clear ho1 hb1
      go_wp2_with fail
      refine (toIntSS_c _ _ _ _ (G1.out.keep (keep_of_below q2.out)) B1.out.1 (fun xs h => (B1.out.2.2 xs h).1)).mono ?_
      rintro e wc2 ⟨C2, d2, rfl, ho2, hb2⟩
      have s3 : wc1.heap.size ≤ wc2.heap.size := Below.size hb2
      have q3 := Lib.hid (q2.out.trans (Below.mono hb2 q2.out.size))
      have O1_3 := Lib.hid (O1.out.below (Below.mono hb2 (by omega : wc1.heap.size ≤ wc1.heap.size)))
      have O2 := Lib.hid ho2
      clear ho2 hb2
      go_wp2_with fail
      refine (givesIIb_v (sChanceFor_c _ _ _ _ _ _ _ _ O1_3.out.ints O2.out.rows B0.out.1 B1.out.1 O2.out.cap O2.out.le.2) HV.out HB.out).mono ?_
      rintro e wr3 ⟨C3, d3, rfl, ho3, hb3⟩
      have s4 : wc2.heap.size ≤ wr3.heap.size := Below.size hb3
      have q4 := Lib.hid (q3.out.trans (Below.mono hb3 q3.out.size))
      have O1_4 := Lib.hid (O1_3.out.below (Below.mono hb3 (by omega : wc1.heap.size ≤ wc2.heap.size)))
      have O2_4 := Lib.hid (O2.out.below (Below.mono hb3 (by omega : wc2.heap.size ≤ wc2.heap.size)))
      have O3 := Lib.hid ho3
      clear ho3 hb3
      go_wp2_with fail
      refine (toIntS_c _ _ _ _ (G0.out.keep (keep_of_below q4.out)) B0.out.1).mono ?_
      rintro e wc4 ⟨C4, d4, rfl, ho4, hb4⟩
      have s5 : wr3.heap.size ≤ wc4.heap.size := Below.size hb4
      have q5 := Lib.hid (q4.out.trans (Below.mono hb4 q4.out.size))
      have O3_5 := Lib.hid (O3.out.below (Below.mono hb4 (by omega : wr3.heap.size ≤ wr3.heap.size)))
      have O4 := Lib.hid ho4
      clear ho4 hb4
      go_wp2_with fail
      refine (toIntSS_c _ _ _ _ (G1.out.keep (keep_of_below q5.out)) B1.out.1 (fun xs h => (B1.out.2.2 xs h).1)).mono ?_
      rintro e wc5 ⟨C5, d5, rfl, ho5, hb5⟩
      have s6 : wc4.heap.size ≤ wc5.heap.size := Below.size hb5
      have q6 := Lib.hid (q5.out.trans (Below.mono hb5 q5.out.size))
      have O3_6 := Lib.hid (O3_5.out.below (Below.mono hb5 (by omega : wr3.heap.size ≤ wc4.heap.size)))
      have O4_6 := Lib.hid (O4.out.below (Below.mono hb5 (by omega : wc4.heap.size ≤ wc4.heap.size)))
      have O5 := Lib.hid ho5
      clear ho5 hb5
      go_wp2_with fail
      refine (givesIIb_v (iChanceFor_c _ _ _ _ _ _ _ _ O4_6.out.ints O5.out.rows B0.out.1 B1.out.1 O5.out.cap O5.out.le.2) HV.out HB.out).mono ?_
      rintro e wr6 ⟨C6, d6, rfl, ho6, hb6⟩
      have s7 : wc5.heap.size ≤ wr6.heap.size := Below.size hb6
      have q7 := Lib.hid (q6.out.trans (Below.mono hb6 q6.out.size))
      have O3_7 := Lib.hid (O3_6.out.below (Below.mono hb6 (by omega : wr3.heap.size ≤ wc5.heap.size)))
      have O4_7 := Lib.hid (O4_6.out.below (Below.mono hb6 (by omega : wc4.heap.size ≤ wc5.heap.size)))
      have O5_7 := Lib.hid (O5.out.below (Below.mono hb6 (by omega : wc5.heap.size ≤ wc5.heap.size)))
      have O6 := Lib.hid ho6
      clear ho6 hb6
      go_wp2_with fail
      refine (calls_v (eqIntSS_c _ _ _ _ _ _ _ (O6.out.rows) (O3_7.out.rows) (by unfold maxLen; omega)) (congrArg Value.bool (decide_eq_true rfl))).mono ?_
      rintro e we7 ⟨rfl, hq⟩
      have s8 : wr6.heap.size ≤ we7.heap.size := Below.size (hq.below wr6.heap.size)
      have q8 := Lib.hid (q7.out.trans (Below.mono (hq.below wr6.heap.size) q7.out.size))
      have O3_8 := Lib.hid (O3_7.out.below (Below.mono (hq.below wr6.heap.size) (by omega : wr3.heap.size ≤ wr6.heap.size)))
      have O4_8 := Lib.hid (O4_7.out.below (Below.mono (hq.below wr6.heap.size) (by omega : wc4.heap.size ≤ wr6.heap.size)))
      have O5_8 := Lib.hid (O5_7.out.below (Below.mono (hq.below wr6.heap.size) (by omega : wc5.heap.size ≤ wr6.heap.size)))
      have O6_8 := Lib.hid (O6.out.below (Below.mono (hq.below wr6.heap.size) (by omega : wr6.heap.size ≤ wr6.heap.size)))
      clear hq
      go_wp2_with fail
      refine (toIntS_c _ _ _ _ (G0.out.keep (keep_of_below q8.out)) B0.out.1).mono ?_
      rintro e wc8 ⟨C8, d8, rfl, ho8, hb8⟩
      have s9 : we7.heap.size ≤ wc8.heap.size := Below.size hb8
      have q9 := Lib.hid (q8.out.trans (Below.mono hb8 q8.out.size))
      have O3_9 := Lib.hid (O3_8.out.below (Below.mono hb8 (by omega : wr3.heap.size ≤ we7.heap.size)))
      have O4_9 := Lib.hid (O4_8.out.below (Below.mono hb8 (by omega : wc4.heap.size ≤ we7.heap.size)))
      have O5_9 := Lib.hid (O5_8.out.below (Below.mono hb8 (by omega : wc5.heap.size ≤ we7.heap.size)))
      have O6_9 := Lib.hid (O6_8.out.below (Below.mono hb8 (by omega : wr6.heap.size ≤ we7.heap.size)))
      have O8 := Lib.hid ho8
      clear ho8 hb8
      go_wp2_with fail
      refine (calls_v (eqIntS_c _ _ _ _ _ _ _ (O4_9.out.ints) (O8.out.ints) (by unfold maxLen; omega)) (congrArg Value.bool (decide_eq_true rfl))).mono ?_
      rintro e we9 ⟨rfl, hq⟩
      have s10 : wc8.heap.size ≤ we9.heap.size := Below.size (hq.below wc8.heap.size)
      have q10 := Lib.hid (q9.out.trans (Below.mono (hq.below wc8.heap.size) q9.out.size))
      have O3_10 := Lib.hid (O3_9.out.below (Below.mono (hq.below wc8.heap.size) (by omega : wr3.heap.size ≤ wc8.heap.size)))
      have O4_10 := Lib.hid (O4_9.out.below (Below.mono (hq.below wc8.heap.size) (by omega : wc4.heap.size ≤ wc8.heap.size)))
      have O5_10 := Lib.hid (O5_9.out.below (Below.mono (hq.below wc8.heap.size) (by omega : wc5.heap.size ≤ wc8.heap.size)))
      have O6_10 := Lib.hid (O6_9.out.below (Below.mono (hq.below wc8.heap.size) (by omega : wr6.heap.size ≤ wc8.heap.size)))
      have O8_10 := Lib.hid (O8.out.below (Below.mono (hq.below wc8.heap.size) (by omega : wc8.heap.size ≤ wc8.heap.size)))
      clear hq
      go_wp2_with fail
      refine (toIntSS_c _ _ _ _ (G1.out.keep (keep_of_below q10.out)) B1.out.1 (fun xs h => (B1.out.2.2 xs h).1)).mono ?_
      rintro e wc10 ⟨C10, d10, rfl, ho10, hb10⟩
      have s11 : we9.heap.size ≤ wc10.heap.size := Below.size hb10
      have q11 := Lib.hid (q10.out.trans (Below.mono hb10 q10.out.size))
      have O3_11 := Lib.hid (O3_10.out.below (Below.mono hb10 (by omega : wr3.heap.size ≤ we9.heap.size)))
      have O4_11 := Lib.hid (O4_10.out.below (Below.mono hb10 (by omega : wc4.heap.size ≤ we9.heap.size)))
      have O5_11 := Lib.hid (O5_10.out.below (Below.mono hb10 (by omega : wc5.heap.size ≤ we9.heap.size)))
      have O6_11 := Lib.hid (O6_10.out.below (Below.mono hb10 (by omega : wr6.heap.size ≤ we9.heap.size)))
      have O10 := Lib.hid ho10
      clear ho10 hb10
      go_wp2_with fail
      refine (calls_v (eqIntSS_c _ _ _ _ _ _ _ (O5_11.out.rows) (O10.out.rows) (by unfold maxLen; omega)) (congrArg Value.bool (decide_eq_true rfl))).mono ?_
      rintro e we11 ⟨rfl, hq⟩
      have s12 : wc10.heap.size ≤ we11.heap.size := Below.size (hq.below wc10.heap.size)
      have q12 := Lib.hid (q11.out.trans (Below.mono (hq.below wc10.heap.size) q11.out.size))
      have O3_12 := Lib.hid (O3_11.out.below (Below.mono (hq.below wc10.heap.size) (by omega : wr3.heap.size ≤ wc10.heap.size)))
      have O4_12 := Lib.hid (O4_11.out.below (Below.mono (hq.below wc10.heap.size) (by omega : wc4.heap.size ≤ wc10.heap.size)))
      have O5_12 := Lib.hid (O5_11.out.below (Below.mono (hq.below wc10.heap.size) (by omega : wc5.heap.size ≤ wc10.heap.size)))
      have O6_12 := Lib.hid (O6_11.out.below (Below.mono (hq.below wc10.heap.size) (by omega : wr6.heap.size ≤ wc10.heap.size)))
      have O10_12 := Lib.hid (O10.out.below (Below.mono (hq.below wc10.heap.size) (by omega : wc10.heap.size ≤ wc10.heap.size)))
      clear hq
      go_wp2_with fail
      refine (markIntS_c _ _ _ _ _ _ _ O4_12.out (by omega) (by omega) (by omega)).mono ?_
      rintro e wm12 ⟨rfl, ho12, hy12⟩
      have s13 : we11.heap.size ≤ wm12.heap.size := Only.size hy12
      have q13 := Lib.hid (q12.out.trans (below_of_only hy12 (by omega) q12.out.size))
      have O3_13 := Lib.hid (O3_12.out.only hy12 (by omega) (by omega))
      have O5_13 := Lib.hid (O5_12.out.only hy12 (by omega) (by omega))
      have O6_13 := Lib.hid (O6_12.out.only hy12 (by omega) (by omega))
      have O4m := Lib.hid ho12
      clear ho12 hy12
      go_wp2_with fail
      refine (markIntSS_c _ _ _ _ _ _ _ O5_13.out (by omega) (by omega) (by omega) (by omega) (by omega)).mono ?_
      rintro e wm13 ⟨rfl, ho13, hy13⟩
      have s14 : wm12.heap.size ≤ wm13.heap.size := Only.size hy13
      have q14 := Lib.hid (q13.out.trans (below_of_only hy13 (by omega) q13.out.size))
      have O3_14 := Lib.hid (O3_13.out.only hy13 (by omega) (by omega))
      have O6_14 := Lib.hid (O6_13.out.only hy13 (by omega) (by omega))
      have O4m_14 := Lib.hid (O4m.out.only hy13 (by omega) (by omega))
      have O5m := Lib.hid ho13
      clear ho13 hy13
      go_wp2_with fail
      refine (calls_v (eqIntSS_c _ _ _ _ _ _ _ (O6_14.out.rows) (O3_14.out.rows) (by unfold maxLen; omega)) (congrArg Value.bool (decide_eq_true rfl))).mono ?_
      rintro e we14 ⟨rfl, hq⟩
      have s15 : wm13.heap.size ≤ we14.heap.size := Below.size (hq.below wm13.heap.size)
      have q15 := Lib.hid (q14.out.trans (Below.mono (hq.below wm13.heap.size) q14.out.size))
      have O3_15 := Lib.hid (O3_14.out.below (Below.mono (hq.below wm13.heap.size) (by omega : wr3.heap.size ≤ wm13.heap.size)))
      have O6_15 := Lib.hid (O6_14.out.below (Below.mono (hq.below wm13.heap.size) (by omega : wr6.heap.size ≤ wm13.heap.size)))
      have O4m_15 := Lib.hid (O4m_14.out.below (Below.mono (hq.below wm13.heap.size) (by omega : wc4.heap.size ≤ wm13.heap.size)))
      have O5m_15 := Lib.hid (O5m.out.below (Below.mono (hq.below wm13.heap.size) (by omega : wc5.heap.size ≤ wm13.heap.size)))
      clear hq
      go_wp2_with fail
      refine (markIntSS_c _ _ _ _ _ _ _ O6_15.out (by omega) (by omega) (by omega) (by omega) (by omega)).mono ?_
      rintro e wm15 ⟨rfl, ho15, hy15⟩
      have s16 : we14.heap.size ≤ wm15.heap.size := Only.size hy15
      have q16 := Lib.hid (q15.out.trans (below_of_only hy15 (by omega) q15.out.size))
      have O3_16 := Lib.hid (O3_15.out.only hy15 (by omega) (by omega))
      have O6m := Lib.hid ho15
      clear ho15 hy15
      go_wp2_with fail
      refine (heldIntSS_c _ _ _ _ _ (O6m.out.rows) (by omega) (by omega) (by omega) (by omega)).mono ?_
      rintro e wh16 ⟨rfl, hq⟩
      have s17 : wm15.heap.size ≤ wh16.heap.size := Below.size (hq.below wm15.heap.size)
      have q17 := Lib.hid (q16.out.trans (Below.mono (hq.below wm15.heap.size) q16.out.size))
      have O3_17 := Lib.hid (O3_16.out.below (Below.mono (hq.below wm15.heap.size) (by omega : wr3.heap.size ≤ wm15.heap.size)))
      have O6m_17 := Lib.hid (O6m.out.below (Below.mono (hq.below wm15.heap.size) (by omega : wr6.heap.size ≤ wm15.heap.size)))
      clear hq
      go_wp2_with fail
      refine (toIntS_c _ _ _ _ (G0.out.keep (keep_of_below q17.out)) B0.out.1).mono ?_
      rintro e wc17 ⟨C17, d17, rfl, ho17, hb17⟩
      have s18 : wh16.heap.size ≤ wc17.heap.size := Below.size hb17
      have q18 := Lib.hid (q17.out.trans (Below.mono hb17 q17.out.size))
      have O3_18 := Lib.hid (O3_17.out.below (Below.mono hb17 (by omega : wr3.heap.size ≤ wh16.heap.size)))
      have O6m_18 := Lib.hid (O6m_17.out.below (Below.mono hb17 (by omega : wr6.heap.size ≤ wh16.heap.size)))
      have O17 := Lib.hid ho17
      clear ho17 hb17
      go_wp2_with fail
      refine (toIntSS_c _ _ _ _ (G1.out.keep (keep_of_below q18.out)) B1.out.1 (fun xs h => (B1.out.2.2 xs h).1)).mono ?_
      rintro e wc18 ⟨C18, d18, rfl, ho18, hb18⟩
      have s19 : wc17.heap.size ≤ wc18.heap.size := Below.size hb18
      have q19 := Lib.hid (q18.out.trans (Below.mono hb18 q18.out.size))
      have O3_19 := Lib.hid (O3_18.out.below (Below.mono hb18 (by omega : wr3.heap.size ≤ wc17.heap.size)))
      have O6m_19 := Lib.hid (O6m_18.out.below (Below.mono hb18 (by omega : wr6.heap.size ≤ wc17.heap.size)))
      have O17_19 := Lib.hid (O17.out.below (Below.mono hb18 (by omega : wc17.heap.size ≤ wc17.heap.size)))
      have O18 := Lib.hid ho18
      clear ho18 hb18
      go_wp2_with fail
      refine (givesIIb_v (iChanceFor_c _ _ _ _ _ _ _ _ O17_19.out.ints O18.out.rows B0.out.1 B1.out.1 O18.out.cap O18.out.le.2) HV.out HB.out).mono ?_
      rintro e wr19 ⟨C19, d19, rfl, ho19, hb19⟩
      have s20 : wc18.heap.size ≤ wr19.heap.size := Below.size hb19
      have q20 := Lib.hid (q19.out.trans (Below.mono hb19 q19.out.size))
      have O3_20 := Lib.hid (O3_19.out.below (Below.mono hb19 (by omega : wr3.heap.size ≤ wc18.heap.size)))
      have O6m_20 := Lib.hid (O6m_19.out.below (Below.mono hb19 (by omega : wr6.heap.size ≤ wc18.heap.size)))
      have O17_20 := Lib.hid (O17_19.out.below (Below.mono hb19 (by omega : wc17.heap.size ≤ wc18.heap.size)))
      have O18_20 := Lib.hid (O18.out.below (Below.mono hb19 (by omega : wc18.heap.size ≤ wc18.heap.size)))
      have O19 := Lib.hid ho19
      clear ho19 hb19
      go_wp2_with fail
      refine (calls_v (eqIntSS_c _ _ _ _ _ _ _ (O19.out.rows) (O3_20.out.rows) (by unfold maxLen; omega)) (congrArg Value.bool (decide_eq_true rfl))).mono ?_
      rintro e we20 ⟨rfl, hq⟩
      have s21 : wr19.heap.size ≤ we20.heap.size := Below.size (hq.below wr19.heap.size)
      have q21 := Lib.hid (q20.out.trans (Below.mono (hq.below wr19.heap.size) q20.out.size))
      have O3_21 := Lib.hid (O3_20.out.below (Below.mono (hq.below wr19.heap.size) (by omega : wr3.heap.size ≤ wr19.heap.size)))
      have O6m_21 := Lib.hid (O6m_20.out.below (Below.mono (hq.below wr19.heap.size) (by omega : wr6.heap.size ≤ wr19.heap.size)))
      have O19_21 := Lib.hid (O19.out.below (Below.mono (hq.below wr19.heap.size) (by omega : wr19.heap.size ≤ wr19.heap.size)))
      clear hq
      go_wp2_with fail
      refine (heldIntSS_c _ _ _ _ _ (O6m_21.out.rows) (by omega) (by omega) (by omega) (by omega)).mono ?_
      rintro e wh21 ⟨rfl, hq⟩
      have s22 : we20.heap.size ≤ wh21.heap.size := Below.size (hq.below we20.heap.size)
      have q22 := Lib.hid (q21.out.trans (Below.mono (hq.below we20.heap.size) q21.out.size))
      have O3_22 := Lib.hid (O3_21.out.below (Below.mono (hq.below we20.heap.size) (by omega : wr3.heap.size ≤ we20.heap.size)))
      have O6m_22 := Lib.hid (O6m_21.out.below (Below.mono (hq.below we20.heap.size) (by omega : wr6.heap.size ≤ we20.heap.size)))
      have O19_22 := Lib.hid (O19_21.out.below (Below.mono (hq.below we20.heap.size) (by omega : wr19.heap.size ≤ we20.heap.size)))
      clear hq
      go_wp2
      go_ret
      exact ⟨rfl, q22.out⟩

set_option maxRecDepth 100000 in
theorem fnExactChanceFor_lifted (os : Os) (started : os.Started) (H : Type) (enc : TypeId × Value → H) :
    ReturnsInHanded {} Try.checked os 11 .any (Rows.fnExactChanceForSpec.pre6 enc Try.prog Try.f11 Rows.fnExactChanceForRow.domain false) (Rows.fnExactChanceForSpec.post enc Try.prog Try.f11 false true false false) := by
  refine returnsInHanded_of_change (C := Try.checked) own_knob started (by kernel_rfl) Try.func11
    (ChangeSpec.witness6 (enc := enc) (C := Try.checked) false ⟨#[], #[.slice none 0 0, .slice none 0 0, .int .i64 0], []⟩ 8 (by kernel_rfl) (by kernel_rfl) (by kernel_rfl) (by kernel_rfl)) ?_
  intro W base args ds gs before hval0 hW hcnd _
  have hval : ∀ (j : Nat) t v, Try.f11.params[j]? = some t → args[j]? = some v → Value.okWide Try.prog W .any base t v := hval0
  have hW' := hW
  obtain ⟨p, q, hA0, hV, rfl, hfz, hnd⟩ := hW
  have hA : DataW.TrodAll enc Try.prog W 0 (fun _ => true) true Try.f11.params.toList args.toList ds p := hA0
  rw [Try.params11] at hA hval
  obtain ⟨v0, vs0, d0, ds0, p0, q0, hargs, rfl, rfl, h0, r0⟩ := trodAll_cons hA
  obtain ⟨v1, vs1, d1, ds1, p1, q1, rfl, rfl, rfl, h1, r1⟩ := trodAll_cons r0
  obtain ⟨v2, vs2, d2, ds2, p2, q2, rfl, rfl, rfl, h2, r2⟩ := trodAll_cons r1
  obtain ⟨rfl, rfl, rfl⟩ := trodAll_nil r2
  obtain rfl : args = #[v0, v1, v2] := by cases args; simp_all
  obtain ⟨rfl, rfl⟩ := trodVars_none hV
  obtain ⟨a0, len0, cap0, rfl⟩ := okWide_slice Try.underlying22 (hval 0 22 v0 rfl rfl)
  have k0 := h0
  have lt0 : ∀ x ∈ p0, x.block < W.heap.size := by obtain ⟨m, hm⟩ := k0; exact DataW.trod_lt m _ _ _ hm
  obtain ⟨xs0, rfl, g0, l0, m0, z0⟩ := open_list Try.underlying22 Try.underlying3 (by kernel_rfl) h0
  obtain ⟨a1, len1, cap1, rfl⟩ := okWide_slice Try.underlying23 (hval 1 23 v1 rfl rfl)
  have k1 := h1
  have lt1 : ∀ x ∈ p1, x.block < W.heap.size := by obtain ⟨m, hm⟩ := k1; exact DataW.trod_lt m _ _ _ hm
  obtain ⟨xs1, rfl, g1, l1, m1, z1⟩ := open_lists Try.underlying23 Try.underlying22 Try.underlying3 (by kernel_rfl) (by kernel_rfl) h1
  obtain ⟨a2, rfl, rfl, rfl, w2⟩ := open_int Try.underlying3 (hval 2 3 v2 rfl rfl) h2
  clear hA0 hval0
  refine (fnExactChanceFor_walk W a0 cap0 xs0 g0 l0 m0 z0 a1 cap1 xs1 g1 l1 m1 z1 a2 (i64_of_wf w2)).mono fun e W' ⟨he, bel⟩ => ?_
  subst he
  exact ⟨_, rfl, _, _, _, [], _, [], hW', trodAll_mk1 (shut_bool Try.underlying4 _), (trodAll_cons_mk (Below.trod laid_out (by kernel_rfl) (of_decide_eq_true (by kernel_rfl)) k0 bel lt0) (trodAll_cons_mk (Below.trod laid_out (by kernel_rfl) (of_decide_eq_true (by kernel_rfl)) k1 bel lt1) (trodAll_cons_mk (shut_int Try.underlying3 w2) trodAll_mk0))), rfl, bel.frame _, fun h => by cases h⟩

theorem fnExactChanceFor_holds : Rows.FnExactChanceForSaid :=
  OpenClaim.holds_of_wide 11 Try.f11 rfl rfl rfl rfl rfl rfl rfl ⟨rfl, rfl, rfl, rfl, rfl⟩ rfl rfl rfl rfl rfl (by kernel_rfl) Try.func11 (by kernel_rfl)
    (of_decide_eq_true (by kernel_rfl)) (by unfold Func.isWrapper; first | (rw [if_pos (by decide +kernel)]; kernel_rfl) | (rw [if_neg (by decide +kernel)]; exact ⟨rfl, rfl⟩))
    (fun os started H enc _ => fnExactChanceFor_lifted os started H enc)
#print axioms fnExactChanceFor_holds

end Go.Proofs.Ytdgmmgaihgpccaa
