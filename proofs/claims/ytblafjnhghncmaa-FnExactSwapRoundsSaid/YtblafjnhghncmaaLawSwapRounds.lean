/- For every n, plan, r and s the program's SwapRounds returns what the reference's returns, in new memory each time; the law returns true and leaves its arguments as they were.
   Conditions: none. -/
import Derived.Test.YtblafjnhghncmaaOpen
import Derived.Test.YtblafjnhghncmaaSwap
namespace Go.Proofs.Ytblafjnhghncmaa
theorem total_le {b : Nat} : ∀ (xss : List (List Int)), (∀ xs ∈ xss, xs.length ≤ b) → total xss ≤ xss.length * b
  | [], _ => by simp [total]
  | xs :: r, h => by
    have h1 := h xs (by simp)
    have h2 := total_le r (fun ys hy => h ys (by simp [hy]))
    simp only [total, List.length_cons, Nat.add_mul]; omega
theorem swap_len (n : Int) (plan : List (List Int)) (r s : Int) (h : plan.length ≤ 1048576) : (swapOf n plan r s).length ≤ 1048576 := by
  unfold swapOf
  split
  · rw [swp_length]; exact h
  · simp
theorem swap_tot (n : Int) (plan : List (List Int)) (r s : Int) : total (swapOf n plan r s) ≤ 4194304 := by
  unfold swapOf
  split
  · rename_i h
    simp only [swapOk, Bool.and_eq_true] at h
    have hP := plan_of h.1.1
    obtain ⟨h1, h2⟩ := inR_true h.1.2
    obtain ⟨h3, h4⟩ := inR_true h.2
    have hl := hP.len
    have hten := hP.ten
    have := total_le (b := 10) (swp plan r.toNat s.toNat) (fun xs hx => by
      obtain ⟨i, hi⟩ := List.getElem?_of_mem hx
      rw [swp_at (by omega) (by omega)] at hi
      have := hP.rlen hi
      omega)
    rw [swp_length] at this
    omega
  · simp [total]
end Go.Proofs.Ytblafjnhghncmaa
namespace Go.Proofs.Ytblafjnhghncmaa
open Go.ChangeShapes Go.WideShapes Go.ChangeAt Go.RowKit
open Go.ChangeMaps (open_string shut_string)
set_option linter.unusedVariables false

set_option maxHeartbeats 4000000 in
theorem fnExactSwapRounds_walk (w : World) (a0 : Int) (w0 : I64 a0) (A1 : Option Addr) (c1 : Nat) (x1 : List (List Int)) (g1 : Rows w A1 x1) (l1 : x1.length ≤ c1) (m1 : c1 ≤ maxLen) (z1 : ∀ xs ∈ x1, ∀ x ∈ xs, I64 x) (a2 : Int) (w2 : I64 a2) (a3 : Int) (w3 : I64 a3) :
    Calls Try.prog 14 #[.int .i64 a0, .slice A1 x1.length c1, .int .i64 a2, .int .i64 a3] w fun e w' => e = .returned (.bool true) ∧ Below w.heap.size w w' := by
  have q0 : Hid (Below w.heap.size w w) := Lib.hid (Below.refl _ _)
  have L1 := Lib.hid (Nat.le_trans l1 m1)
  have G1 := Lib.hid g1
  have Z1 := Lib.hid z1
  clear g1 l1 m1 z1
  have W0 := Lib.hid w0
  have W2 := Lib.hid w2
  have W3 := Lib.hid w3
  clear w0 w2 w3
  have hz1 : szRows x1 (1048576 : Int) ≤ 1048576 := by have := szRows_le x1 (1048576 : Int); omega
  by_cases hs1 : szRows x1 (1048576 : Int) < 0
  · generalize hS1 : szRows x1 (1048576 : Int) = S1 at hs1 hz1
    have HS1 := Lib.hid hS1
    clear hS1
    go_enter Try.func14, Try.ntmps14
    go_wp2_with fail
    refine (calls_v (szIntSS_c _ _ _ _ _ G1.out L1.out (by omega) (by omega)) (congrArg (Value.int .i64) HS1.out)).mono ?_
    rintro e w1 ⟨rfl, u1, rfl⟩
    go_wp2
    go_ret
    exact ⟨rfl, q0.out.trans (below_drewN _ _ _)⟩
  · have B1 := Lib.hid (bdR_of (l := (1048576 : Int)) (by omega) (by omega) Z1.out : BdR x1)
    generalize hS1 : szRows x1 (1048576 : Int) = S1 at hs1 hz1
    have HS1 := Lib.hid hS1
    clear hS1
    have hs1' : 0 ≤ S1 := by omega
    clear hs1
    have nx1 : x1.length ≤ 1048576 := B1.out.1
    have tx1 : total x1 ≤ 1048576 := B1.out.2.1
    have vlen : (swapOf a0 x1 a2 a3).length ≤ 1048576 := swap_len _ _ _ _ (by omega)
    have vtot : total (swapOf a0 x1 a2 a3) ≤ 4194304 := swap_tot _ _ _ _
    generalize hV : swapOf a0 x1 a2 a3 = V at vlen vtot
    have HV := Lib.hid hV
    clear hV
    go_enter Try.func14, Try.ntmps14
    go_wp2_with fail
    refine (calls_v (szIntSS_c _ _ _ _ _ (G1.out.keep (keep_of_below q0.out)) L1.out (by omega) (by omega)) (congrArg (Value.int .i64) HS1.out)).mono ?_
    rintro e ws1 ⟨rfl, hq⟩
    have s1 : w.heap.size ≤ ws1.heap.size := Below.size (hq.below w.heap.size)
    have q1 := Lib.hid (q0.out.trans (Below.mono (hq.below w.heap.size) q0.out.size))
    clear hq
    go_wp2_with fail
    refine (toIntSS_c _ _ _ _ (G1.out.keep (keep_of_below q1.out)) B1.out.1 (fun xs h => (B1.out.2.2 xs h).1)).mono ?_
    rintro e wc1 ⟨C1, d1, rfl, ho1, hb1⟩
    have s2 : ws1.heap.size ≤ wc1.heap.size := Below.size hb1
    have q2 := Lib.hid (q1.out.trans (Below.mono hb1 q1.out.size))
    have O1 := Lib.hid ho1
    clear ho1 hb1
    go_wp2_with fail
    refine (givesII_v (sSwapRounds_c _ _ _ _ _ _ _ O1.out.rows B1.out.1) HV.out).mono ?_
    rintro e wr2 ⟨C2, d2, rfl, ho2, hb2⟩
    have s3 : wc1.heap.size ≤ wr2.heap.size := Below.size hb2
    have q3 := Lib.hid (q2.out.trans (Below.mono hb2 q2.out.size))
    have O1_3 := Lib.hid (O1.out.below (Below.mono hb2 (by omega : wc1.heap.size ≤ wc1.heap.size)))
    have O2 := Lib.hid ho2
    clear ho2 hb2
    go_wp2_with fail
    refine (toIntSS_c _ _ _ _ (G1.out.keep (keep_of_below q3.out)) B1.out.1 (fun xs h => (B1.out.2.2 xs h).1)).mono ?_
    rintro e wc3 ⟨C3, d3, rfl, ho3, hb3⟩
    have s4 : wr2.heap.size ≤ wc3.heap.size := Below.size hb3
    have q4 := Lib.hid (q3.out.trans (Below.mono hb3 q3.out.size))
    have O2_4 := Lib.hid (O2.out.below (Below.mono hb3 (by omega : wr2.heap.size ≤ wr2.heap.size)))
    have O3 := Lib.hid ho3
    clear ho3 hb3
    go_wp2_with fail
    refine (givesII_v (iSwapRounds_c _ _ _ _ _ _ _ O3.out.rows B1.out.1) HV.out).mono ?_
    rintro e wr4 ⟨C4, d4, rfl, ho4, hb4⟩
    have s5 : wc3.heap.size ≤ wr4.heap.size := Below.size hb4
    have q5 := Lib.hid (q4.out.trans (Below.mono hb4 q4.out.size))
    have O2_5 := Lib.hid (O2_4.out.below (Below.mono hb4 (by omega : wr2.heap.size ≤ wc3.heap.size)))
    have O3_5 := Lib.hid (O3.out.below (Below.mono hb4 (by omega : wc3.heap.size ≤ wc3.heap.size)))
    have O4 := Lib.hid ho4
    clear ho4 hb4
    go_wp2_with fail
    refine (calls_v (eqIntSS_c _ _ _ _ _ _ _ (O4.out.rows) (O2_5.out.rows) (by unfold maxLen; omega)) (congrArg Value.bool (decide_eq_true rfl))).mono ?_
    rintro e we5 ⟨rfl, hq⟩
    have s6 : wr4.heap.size ≤ we5.heap.size := Below.size (hq.below wr4.heap.size)
    have q6 := Lib.hid (q5.out.trans (Below.mono (hq.below wr4.heap.size) q5.out.size))
    have O2_6 := Lib.hid (O2_5.out.below (Below.mono (hq.below wr4.heap.size) (by omega : wr2.heap.size ≤ wr4.heap.size)))
    have O3_6 := Lib.hid (O3_5.out.below (Below.mono (hq.below wr4.heap.size) (by omega : wc3.heap.size ≤ wr4.heap.size)))
    have O4_6 := Lib.hid (O4.out.below (Below.mono (hq.below wr4.heap.size) (by omega : wr4.heap.size ≤ wr4.heap.size)))
    clear hq
    go_wp2_with fail
    refine (toIntSS_c _ _ _ _ (G1.out.keep (keep_of_below q6.out)) B1.out.1 (fun xs h => (B1.out.2.2 xs h).1)).mono ?_
    rintro e wc6 ⟨C6, d6, rfl, ho6, hb6⟩
    have s7 : we5.heap.size ≤ wc6.heap.size := Below.size hb6
    have q7 := Lib.hid (q6.out.trans (Below.mono hb6 q6.out.size))
    have O2_7 := Lib.hid (O2_6.out.below (Below.mono hb6 (by omega : wr2.heap.size ≤ we5.heap.size)))
    have O3_7 := Lib.hid (O3_6.out.below (Below.mono hb6 (by omega : wc3.heap.size ≤ we5.heap.size)))
    have O4_7 := Lib.hid (O4_6.out.below (Below.mono hb6 (by omega : wr4.heap.size ≤ we5.heap.size)))
    have O6 := Lib.hid ho6
    clear ho6 hb6
    go_wp2_with fail
    refine (calls_v (eqIntSS_c _ _ _ _ _ _ _ (O3_7.out.rows) (O6.out.rows) (by unfold maxLen; omega)) (congrArg Value.bool (decide_eq_true rfl))).mono ?_
    rintro e we7 ⟨rfl, hq⟩
    have s8 : wc6.heap.size ≤ we7.heap.size := Below.size (hq.below wc6.heap.size)
    have q8 := Lib.hid (q7.out.trans (Below.mono (hq.below wc6.heap.size) q7.out.size))
    have O2_8 := Lib.hid (O2_7.out.below (Below.mono (hq.below wc6.heap.size) (by omega : wr2.heap.size ≤ wc6.heap.size)))
    have O3_8 := Lib.hid (O3_7.out.below (Below.mono (hq.below wc6.heap.size) (by omega : wc3.heap.size ≤ wc6.heap.size)))
    have O4_8 := Lib.hid (O4_7.out.below (Below.mono (hq.below wc6.heap.size) (by omega : wr4.heap.size ≤ wc6.heap.size)))
    have O6_8 := Lib.hid (O6.out.below (Below.mono (hq.below wc6.heap.size) (by omega : wc6.heap.size ≤ wc6.heap.size)))
    clear hq
    go_wp2_with fail
    refine (markIntSS_c _ _ _ _ _ _ _ O3_8.out (by omega) (by omega) (by omega) (by omega) (by omega)).mono ?_
    rintro e wm8 ⟨rfl, ho8, hy8⟩
    have s9 : we7.heap.size ≤ wm8.heap.size := Only.size hy8
    have q9 := Lib.hid (q8.out.trans (below_of_only hy8 (by omega) q8.out.size))
    have O2_9 := Lib.hid (O2_8.out.only hy8 (by omega) (by omega))
    have O4_9 := Lib.hid (O4_8.out.only hy8 (by omega) (by omega))
    have O3m := Lib.hid ho8
    clear ho8 hy8
    go_wp2_with fail
    refine (calls_v (eqIntSS_c _ _ _ _ _ _ _ (O4_9.out.rows) (O2_9.out.rows) (by unfold maxLen; omega)) (congrArg Value.bool (decide_eq_true rfl))).mono ?_
    rintro e we9 ⟨rfl, hq⟩
    have s10 : wm8.heap.size ≤ we9.heap.size := Below.size (hq.below wm8.heap.size)
    have q10 := Lib.hid (q9.out.trans (Below.mono (hq.below wm8.heap.size) q9.out.size))
    have O2_10 := Lib.hid (O2_9.out.below (Below.mono (hq.below wm8.heap.size) (by omega : wr2.heap.size ≤ wm8.heap.size)))
    have O4_10 := Lib.hid (O4_9.out.below (Below.mono (hq.below wm8.heap.size) (by omega : wr4.heap.size ≤ wm8.heap.size)))
    have O3m_10 := Lib.hid (O3m.out.below (Below.mono (hq.below wm8.heap.size) (by omega : wc3.heap.size ≤ wm8.heap.size)))
    clear hq
    go_wp2_with fail
    refine (markIntSS_c _ _ _ _ _ _ _ O4_10.out (by omega) (by omega) (by omega) (by omega) (by omega)).mono ?_
    rintro e wm10 ⟨rfl, ho10, hy10⟩
    have s11 : we9.heap.size ≤ wm10.heap.size := Only.size hy10
    have q11 := Lib.hid (q10.out.trans (below_of_only hy10 (by omega) q10.out.size))
    have O2_11 := Lib.hid (O2_10.out.only hy10 (by omega) (by omega))
    have O4m := Lib.hid ho10
    clear ho10 hy10
    go_wp2_with fail
    refine (heldIntSS_c _ _ _ _ _ (O4m.out.rows) (by omega) (by omega) (by omega) (by omega)).mono ?_
    rintro e wh11 ⟨rfl, hq⟩
    have s12 : wm10.heap.size ≤ wh11.heap.size := Below.size (hq.below wm10.heap.size)
    have q12 := Lib.hid (q11.out.trans (Below.mono (hq.below wm10.heap.size) q11.out.size))
    have O2_12 := Lib.hid (O2_11.out.below (Below.mono (hq.below wm10.heap.size) (by omega : wr2.heap.size ≤ wm10.heap.size)))
    have O4m_12 := Lib.hid (O4m.out.below (Below.mono (hq.below wm10.heap.size) (by omega : wr4.heap.size ≤ wm10.heap.size)))
    clear hq
    go_wp2_with fail
    refine (toIntSS_c _ _ _ _ (G1.out.keep (keep_of_below q12.out)) B1.out.1 (fun xs h => (B1.out.2.2 xs h).1)).mono ?_
    rintro e wc12 ⟨C12, d12, rfl, ho12, hb12⟩
    have s13 : wh11.heap.size ≤ wc12.heap.size := Below.size hb12
    have q13 := Lib.hid (q12.out.trans (Below.mono hb12 q12.out.size))
    have O2_13 := Lib.hid (O2_12.out.below (Below.mono hb12 (by omega : wr2.heap.size ≤ wh11.heap.size)))
    have O4m_13 := Lib.hid (O4m_12.out.below (Below.mono hb12 (by omega : wr4.heap.size ≤ wh11.heap.size)))
    have O12 := Lib.hid ho12
    clear ho12 hb12
    go_wp2_with fail
    refine (givesII_v (iSwapRounds_c _ _ _ _ _ _ _ O12.out.rows B1.out.1) HV.out).mono ?_
    rintro e wr13 ⟨C13, d13, rfl, ho13, hb13⟩
    have s14 : wc12.heap.size ≤ wr13.heap.size := Below.size hb13
    have q14 := Lib.hid (q13.out.trans (Below.mono hb13 q13.out.size))
    have O2_14 := Lib.hid (O2_13.out.below (Below.mono hb13 (by omega : wr2.heap.size ≤ wc12.heap.size)))
    have O4m_14 := Lib.hid (O4m_13.out.below (Below.mono hb13 (by omega : wr4.heap.size ≤ wc12.heap.size)))
    have O12_14 := Lib.hid (O12.out.below (Below.mono hb13 (by omega : wc12.heap.size ≤ wc12.heap.size)))
    have O13 := Lib.hid ho13
    clear ho13 hb13
    go_wp2_with fail
    refine (calls_v (eqIntSS_c _ _ _ _ _ _ _ (O13.out.rows) (O2_14.out.rows) (by unfold maxLen; omega)) (congrArg Value.bool (decide_eq_true rfl))).mono ?_
    rintro e we14 ⟨rfl, hq⟩
    have s15 : wr13.heap.size ≤ we14.heap.size := Below.size (hq.below wr13.heap.size)
    have q15 := Lib.hid (q14.out.trans (Below.mono (hq.below wr13.heap.size) q14.out.size))
    have O2_15 := Lib.hid (O2_14.out.below (Below.mono (hq.below wr13.heap.size) (by omega : wr2.heap.size ≤ wr13.heap.size)))
    have O4m_15 := Lib.hid (O4m_14.out.below (Below.mono (hq.below wr13.heap.size) (by omega : wr4.heap.size ≤ wr13.heap.size)))
    have O13_15 := Lib.hid (O13.out.below (Below.mono (hq.below wr13.heap.size) (by omega : wr13.heap.size ≤ wr13.heap.size)))
    clear hq
    go_wp2_with fail
    refine (heldIntSS_c _ _ _ _ _ (O4m_15.out.rows) (by omega) (by omega) (by omega) (by omega)).mono ?_
    rintro e wh15 ⟨rfl, hq⟩
    have s16 : we14.heap.size ≤ wh15.heap.size := Below.size (hq.below we14.heap.size)
    have q16 := Lib.hid (q15.out.trans (Below.mono (hq.below we14.heap.size) q15.out.size))
    have O2_16 := Lib.hid (O2_15.out.below (Below.mono (hq.below we14.heap.size) (by omega : wr2.heap.size ≤ we14.heap.size)))
    have O4m_16 := Lib.hid (O4m_15.out.below (Below.mono (hq.below we14.heap.size) (by omega : wr4.heap.size ≤ we14.heap.size)))
    have O13_16 := Lib.hid (O13_15.out.below (Below.mono (hq.below we14.heap.size) (by omega : wr13.heap.size ≤ we14.heap.size)))
    clear hq
    go_wp2
    go_ret
    exact ⟨rfl, q16.out⟩

set_option maxRecDepth 100000 in
theorem fnExactSwapRounds_lifted (os : Os) (started : os.Started) (H : Type) (enc : TypeId × Value → H) :
    ReturnsInHanded {} Try.checked os 14 .any (Rows.fnExactSwapRoundsSpec.pre6 enc Try.prog Try.f14 Rows.fnExactSwapRoundsRow.domain false) (Rows.fnExactSwapRoundsSpec.post enc Try.prog Try.f14 false true false false) := by
  refine returnsInHanded_of_change (C := Try.checked) own_knob started (by kernel_rfl) Try.func14
    (ChangeSpec.witness6 (enc := enc) (C := Try.checked) false ⟨#[], #[.int .i64 0, .slice none 0 0, .int .i64 0, .int .i64 0], []⟩ 8 (by kernel_rfl) (by kernel_rfl) (by kernel_rfl) (by kernel_rfl)) ?_
  intro W base args ds gs before hval0 hW hcnd _
  have hval : ∀ (j : Nat) t v, Try.f14.params[j]? = some t → args[j]? = some v → Value.okWide Try.prog W .any base t v := hval0
  have hW' := hW
  obtain ⟨p, q, hA0, hV, rfl, hfz, hnd⟩ := hW
  have hA : DataW.TrodAll enc Try.prog W 0 (fun _ => true) true Try.f14.params.toList args.toList ds p := hA0
  rw [Try.params14] at hA hval
  obtain ⟨v0, vs0, d0, ds0, p0, q0, hargs, rfl, rfl, h0, r0⟩ := trodAll_cons hA
  obtain ⟨v1, vs1, d1, ds1, p1, q1, rfl, rfl, rfl, h1, r1⟩ := trodAll_cons r0
  obtain ⟨v2, vs2, d2, ds2, p2, q2, rfl, rfl, rfl, h2, r2⟩ := trodAll_cons r1
  obtain ⟨v3, vs3, d3, ds3, p3, q3, rfl, rfl, rfl, h3, r3⟩ := trodAll_cons r2
  obtain ⟨rfl, rfl, rfl⟩ := trodAll_nil r3
  obtain rfl : args = #[v0, v1, v2, v3] := by cases args; simp_all
  obtain ⟨rfl, rfl⟩ := trodVars_none hV
  obtain ⟨a0, rfl, rfl, rfl, w0⟩ := open_int Try.underlying3 (hval 0 3 v0 rfl rfl) h0
  obtain ⟨a1, len1, cap1, rfl⟩ := okWide_slice Try.underlying22 (hval 1 22 v1 rfl rfl)
  have k1 := h1
  have lt1 : ∀ x ∈ p1, x.block < W.heap.size := by obtain ⟨m, hm⟩ := k1; exact DataW.trod_lt m _ _ _ hm
  obtain ⟨xs1, rfl, g1, l1, m1, z1⟩ := open_lists Try.underlying22 Try.underlying35 Try.underlying3 (by kernel_rfl) (by kernel_rfl) h1
  obtain ⟨a2, rfl, rfl, rfl, w2⟩ := open_int Try.underlying3 (hval 2 3 v2 rfl rfl) h2
  obtain ⟨a3, rfl, rfl, rfl, w3⟩ := open_int Try.underlying3 (hval 3 3 v3 rfl rfl) h3
  clear hA0 hval0
  refine (fnExactSwapRounds_walk W a0 (i64_of_wf w0) a1 cap1 xs1 g1 l1 m1 z1 a2 (i64_of_wf w2) a3 (i64_of_wf w3)).mono fun e W' ⟨he, bel⟩ => ?_
  subst he
  exact ⟨_, rfl, _, _, _, [], _, [], hW', trodAll_mk1 (shut_bool Try.underlying4 _), (trodAll_cons_mk (shut_int Try.underlying3 w0) (trodAll_cons_mk (Below.trod laid_out (by kernel_rfl) (of_decide_eq_true (by kernel_rfl)) k1 bel lt1) (trodAll_cons_mk (shut_int Try.underlying3 w2) (trodAll_cons_mk (shut_int Try.underlying3 w3) trodAll_mk0)))), rfl, bel.frame _, fun h => by cases h⟩

theorem fnExactSwapRounds_holds : Rows.FnExactSwapRoundsSaid :=
  OpenClaim.holds_of_wide 14 Try.f14 rfl rfl rfl rfl rfl rfl rfl ⟨rfl, rfl, rfl, rfl, rfl⟩ rfl rfl rfl rfl rfl (by kernel_rfl) Try.func14 (by kernel_rfl)
    (of_decide_eq_true (by kernel_rfl)) (by unfold Func.isWrapper; first | (rw [if_pos (by decide +kernel)]; kernel_rfl) | (rw [if_neg (by decide +kernel)]; exact ⟨rfl, rfl⟩))
    (fun os started H enc _ => fnExactSwapRounds_lifted os started H enc)
#print axioms fnExactSwapRounds_holds

end Go.Proofs.Ytblafjnhghncmaa
