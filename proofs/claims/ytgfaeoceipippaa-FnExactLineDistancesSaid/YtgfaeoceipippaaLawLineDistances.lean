/- For all places the program's LineDistances returns what the reference's returns, in new memory each time; the law returns true and leaves its arguments as they were.
   Conditions: none. -/
import Derived.Test.YtgfaeoceipippaaLine
import Derived.Test.YtgfaeoceipippaaCap
namespace Go.Proofs.Ytgfaeoceipippaa
theorem lineF_small (ps : List Int) : (lineF ps).length ≤ 10 ∧ ∀ xs ∈ lineF ps, xs.length ≤ 10 := by
  unfold lineF
  split
  · rename_i h
    simp only [lineOk, Bool.and_eq_true] at h
    have hn := isClubs_true h.1
    refine ⟨by rw [lineP, List.length_map]; omega, fun xs hx => ?_⟩
    rw [lineP] at hx
    obtain ⟨x, _, rfl⟩ := List.mem_map.1 hx
    rw [lineRow, List.length_map]; omega
  · exact ⟨by simp, fun xs hx => by simp at hx⟩
theorem lineF_len (ps : List Int) : (lineF ps).length ≤ 1048576 := Nat.le_trans (lineF_small ps).1 (by decide)
theorem lineF_tot (ps : List Int) : total (lineF ps) ≤ 4194304 := by
  have h1 := lineF_small ps
  have h2 := total_bd (b := 10) (lineF ps) h1.2
  have h3 := h1.1
  omega
end Go.Proofs.Ytgfaeoceipippaa
namespace Go.Proofs.Ytgfaeoceipippaa
open Go.ChangeShapes Go.WideShapes Go.ChangeAt Go.RowKit
open Go.ChangeMaps (open_string shut_string)
set_option linter.unusedVariables false

set_option maxHeartbeats 4000000 in
theorem fnExactLineDistances_walk (w : World) (A0 : Option Addr) (c0 : Nat) (x0 : List Int) (g0 : Ints w A0 x0) (l0 : x0.length ≤ c0) (m0 : c0 ≤ maxLen) (z0 : ∀ x ∈ x0, I64 x) :
    Calls Try.prog 3 #[.slice A0 x0.length c0] w fun e w' => e = .returned (.bool true) ∧ Below w.heap.size w w' := by
  have q0 : Hid (Below w.heap.size w w) := Lib.hid (Below.refl _ _)
  have L0 := Lib.hid (Nat.le_trans l0 m0)
  have G0 := Lib.hid g0
  have Z0 := Lib.hid z0
  clear g0 l0 m0 z0
  by_cases hb0 : 1048576 < x0.length
  · go_enter Try.func3, Try.ntmps3
    go_wp2
    go_ret
    exact ⟨rfl, q0.out⟩
  · have hb0' : x0.length ≤ 1048576 := by omega
    have B0 : Hid (BdI x0) := Lib.hid ⟨by omega, Z0.out⟩
    have nx0 : x0.length ≤ 1048576 := B0.out.1
    have vlen : (lineF x0).length ≤ 1048576 := lineF_len _
    have vtot : total (lineF x0) ≤ 4194304 := lineF_tot _
    generalize hV : lineF x0 = V at vlen vtot
    have HV := Lib.hid hV
    clear hV
    go_enter Try.func3, Try.ntmps3
    go_wp2_with fail
    refine (toIntS_c _ _ _ _ (G0.out.keep (keep_of_below q0.out)) B0.out.1).mono ?_
    rintro e wc1 ⟨C1, d1, rfl, ho1, hb1⟩
    have s1 : w.heap.size ≤ wc1.heap.size := Below.size hb1
    have q1 := Lib.hid (q0.out.trans (Below.mono hb1 q0.out.size))
    have O1 := Lib.hid ho1
    clear ho1 hb1
    go_wp2_with fail
    refine (givesII_v (sLineDistances_c _ _ _ _ O1.out.ints B0.out.1) HV.out).mono ?_
    rintro e wr2 ⟨C2, d2, rfl, ho2, hb2⟩
    have s2 : wc1.heap.size ≤ wr2.heap.size := Below.size hb2
    have q2 := Lib.hid (q1.out.trans (Below.mono hb2 q1.out.size))
    have O1_2 := Lib.hid (O1.out.below (Below.mono hb2 (by omega : wc1.heap.size ≤ wc1.heap.size)))
    have O2 := Lib.hid ho2
    clear ho2 hb2
    go_wp2_with fail
    refine (toIntS_c _ _ _ _ (G0.out.keep (keep_of_below q2.out)) B0.out.1).mono ?_
    rintro e wc3 ⟨C3, d3, rfl, ho3, hb3⟩
    have s3 : wr2.heap.size ≤ wc3.heap.size := Below.size hb3
    have q3 := Lib.hid (q2.out.trans (Below.mono hb3 q2.out.size))
    have O2_3 := Lib.hid (O2.out.below (Below.mono hb3 (by omega : wr2.heap.size ≤ wr2.heap.size)))
    have O3 := Lib.hid ho3
    clear ho3 hb3
    go_wp2_with fail
    refine (givesII_v (iLineDistances_c _ _ _ _ O3.out.ints B0.out.1) HV.out).mono ?_
    rintro e wr4 ⟨C4, d4, rfl, ho4, hb4⟩
    have s4 : wc3.heap.size ≤ wr4.heap.size := Below.size hb4
    have q4 := Lib.hid (q3.out.trans (Below.mono hb4 q3.out.size))
    have O2_4 := Lib.hid (O2_3.out.below (Below.mono hb4 (by omega : wr2.heap.size ≤ wc3.heap.size)))
    have O3_4 := Lib.hid (O3.out.below (Below.mono hb4 (by omega : wc3.heap.size ≤ wc3.heap.size)))
    have O4 := Lib.hid ho4
    clear ho4 hb4
    go_wp2_with fail
    refine (calls_v (eqIntSS_c _ _ _ _ _ _ _ (O4.out.rows) (O2_4.out.rows) (by unfold maxLen; omega)) (congrArg Value.bool (decide_eq_true rfl))).mono ?_
    rintro e we5 ⟨rfl, hq⟩
    have s5 : wr4.heap.size ≤ we5.heap.size := Below.size (hq.below wr4.heap.size)
    have q5 := Lib.hid (q4.out.trans (Below.mono (hq.below wr4.heap.size) q4.out.size))
    have O2_5 := Lib.hid (O2_4.out.below (Below.mono (hq.below wr4.heap.size) (by omega : wr2.heap.size ≤ wr4.heap.size)))
    have O3_5 := Lib.hid (O3_4.out.below (Below.mono (hq.below wr4.heap.size) (by omega : wc3.heap.size ≤ wr4.heap.size)))
    have O4_5 := Lib.hid (O4.out.below (Below.mono (hq.below wr4.heap.size) (by omega : wr4.heap.size ≤ wr4.heap.size)))
    clear hq
    go_wp2_with fail
    refine (toIntS_c _ _ _ _ (G0.out.keep (keep_of_below q5.out)) B0.out.1).mono ?_
    rintro e wc6 ⟨C6, d6, rfl, ho6, hb6⟩
    have s6 : we5.heap.size ≤ wc6.heap.size := Below.size hb6
    have q6 := Lib.hid (q5.out.trans (Below.mono hb6 q5.out.size))
    have O2_6 := Lib.hid (O2_5.out.below (Below.mono hb6 (by omega : wr2.heap.size ≤ we5.heap.size)))
    have O3_6 := Lib.hid (O3_5.out.below (Below.mono hb6 (by omega : wc3.heap.size ≤ we5.heap.size)))
    have O4_6 := Lib.hid (O4_5.out.below (Below.mono hb6 (by omega : wr4.heap.size ≤ we5.heap.size)))
    have O6 := Lib.hid ho6
    clear ho6 hb6
    go_wp2_with fail
    refine (calls_v (eqIntS_c _ _ _ _ _ _ _ (O3_6.out.ints) (O6.out.ints) (by unfold maxLen; omega)) (congrArg Value.bool (decide_eq_true rfl))).mono ?_
    rintro e we7 ⟨rfl, hq⟩
    have s7 : wc6.heap.size ≤ we7.heap.size := Below.size (hq.below wc6.heap.size)
    have q7 := Lib.hid (q6.out.trans (Below.mono (hq.below wc6.heap.size) q6.out.size))
    have O2_7 := Lib.hid (O2_6.out.below (Below.mono (hq.below wc6.heap.size) (by omega : wr2.heap.size ≤ wc6.heap.size)))
    have O3_7 := Lib.hid (O3_6.out.below (Below.mono (hq.below wc6.heap.size) (by omega : wc3.heap.size ≤ wc6.heap.size)))
    have O4_7 := Lib.hid (O4_6.out.below (Below.mono (hq.below wc6.heap.size) (by omega : wr4.heap.size ≤ wc6.heap.size)))
    have O6_7 := Lib.hid (O6.out.below (Below.mono (hq.below wc6.heap.size) (by omega : wc6.heap.size ≤ wc6.heap.size)))
    clear hq
    go_wp2_with fail
    refine (markIntS_c _ _ _ _ _ _ _ O3_7.out (by omega) (by omega) (by omega)).mono ?_
    rintro e wm8 ⟨rfl, ho8, hy8⟩
    have s8 : we7.heap.size ≤ wm8.heap.size := Only.size hy8
    have q8 := Lib.hid (q7.out.trans (below_of_only hy8 (by omega) q7.out.size))
    have O2_8 := Lib.hid (O2_7.out.only hy8 (by omega) (by omega))
    have O4_8 := Lib.hid (O4_7.out.only hy8 (by omega) (by omega))
    have O3m := Lib.hid ho8
    clear ho8 hy8
    go_wp2_with fail
    refine (calls_v (eqIntSS_c _ _ _ _ _ _ _ (O4_8.out.rows) (O2_8.out.rows) (by unfold maxLen; omega)) (congrArg Value.bool (decide_eq_true rfl))).mono ?_
    rintro e we9 ⟨rfl, hq⟩
    have s9 : wm8.heap.size ≤ we9.heap.size := Below.size (hq.below wm8.heap.size)
    have q9 := Lib.hid (q8.out.trans (Below.mono (hq.below wm8.heap.size) q8.out.size))
    have O2_9 := Lib.hid (O2_8.out.below (Below.mono (hq.below wm8.heap.size) (by omega : wr2.heap.size ≤ wm8.heap.size)))
    have O4_9 := Lib.hid (O4_8.out.below (Below.mono (hq.below wm8.heap.size) (by omega : wr4.heap.size ≤ wm8.heap.size)))
    have O3m_9 := Lib.hid (O3m.out.below (Below.mono (hq.below wm8.heap.size) (by omega : wc3.heap.size ≤ wm8.heap.size)))
    clear hq
    go_wp2_with fail
    refine (markIntSS_c _ _ _ _ _ _ _ O4_9.out (by omega) (by omega) (by omega) (by omega) (by omega)).mono ?_
    rintro e wm10 ⟨rfl, ho10, hy10⟩
    have s10 : we9.heap.size ≤ wm10.heap.size := Only.size hy10
    have q10 := Lib.hid (q9.out.trans (below_of_only hy10 (by omega) q9.out.size))
    have O2_10 := Lib.hid (O2_9.out.only hy10 (by omega) (by omega))
    have O4m := Lib.hid ho10
    clear ho10 hy10
    go_wp2_with fail
    refine (heldIntSS_c _ _ _ _ _ (O4m.out.rows) (by omega) (by omega) (by omega) (by omega)).mono ?_
    rintro e wh11 ⟨rfl, hq⟩
    have s11 : wm10.heap.size ≤ wh11.heap.size := Below.size (hq.below wm10.heap.size)
    have q11 := Lib.hid (q10.out.trans (Below.mono (hq.below wm10.heap.size) q10.out.size))
    have O2_11 := Lib.hid (O2_10.out.below (Below.mono (hq.below wm10.heap.size) (by omega : wr2.heap.size ≤ wm10.heap.size)))
    have O4m_11 := Lib.hid (O4m.out.below (Below.mono (hq.below wm10.heap.size) (by omega : wr4.heap.size ≤ wm10.heap.size)))
    clear hq
    go_wp2_with fail
    refine (toIntS_c _ _ _ _ (G0.out.keep (keep_of_below q11.out)) B0.out.1).mono ?_
    rintro e wc12 ⟨C12, d12, rfl, ho12, hb12⟩
    have s12 : wh11.heap.size ≤ wc12.heap.size := Below.size hb12
    have q12 := Lib.hid (q11.out.trans (Below.mono hb12 q11.out.size))
    have O2_12 := Lib.hid (O2_11.out.below (Below.mono hb12 (by omega : wr2.heap.size ≤ wh11.heap.size)))
    have O4m_12 := Lib.hid (O4m_11.out.below (Below.mono hb12 (by omega : wr4.heap.size ≤ wh11.heap.size)))
    have O12 := Lib.hid ho12
    clear ho12 hb12
    go_wp2_with fail
    refine (givesII_v (iLineDistances_c _ _ _ _ O12.out.ints B0.out.1) HV.out).mono ?_
    rintro e wr13 ⟨C13, d13, rfl, ho13, hb13⟩
    have s13 : wc12.heap.size ≤ wr13.heap.size := Below.size hb13
    have q13 := Lib.hid (q12.out.trans (Below.mono hb13 q12.out.size))
    have O2_13 := Lib.hid (O2_12.out.below (Below.mono hb13 (by omega : wr2.heap.size ≤ wc12.heap.size)))
    have O4m_13 := Lib.hid (O4m_12.out.below (Below.mono hb13 (by omega : wr4.heap.size ≤ wc12.heap.size)))
    have O12_13 := Lib.hid (O12.out.below (Below.mono hb13 (by omega : wc12.heap.size ≤ wc12.heap.size)))
    have O13 := Lib.hid ho13
    clear ho13 hb13
    go_wp2_with fail
    refine (calls_v (eqIntSS_c _ _ _ _ _ _ _ (O13.out.rows) (O2_13.out.rows) (by unfold maxLen; omega)) (congrArg Value.bool (decide_eq_true rfl))).mono ?_
    rintro e we14 ⟨rfl, hq⟩
    have s14 : wr13.heap.size ≤ we14.heap.size := Below.size (hq.below wr13.heap.size)
    have q14 := Lib.hid (q13.out.trans (Below.mono (hq.below wr13.heap.size) q13.out.size))
    have O2_14 := Lib.hid (O2_13.out.below (Below.mono (hq.below wr13.heap.size) (by omega : wr2.heap.size ≤ wr13.heap.size)))
    have O4m_14 := Lib.hid (O4m_13.out.below (Below.mono (hq.below wr13.heap.size) (by omega : wr4.heap.size ≤ wr13.heap.size)))
    have O13_14 := Lib.hid (O13.out.below (Below.mono (hq.below wr13.heap.size) (by omega : wr13.heap.size ≤ wr13.heap.size)))
    clear hq
    go_wp2_with fail
    refine (heldIntSS_c _ _ _ _ _ (O4m_14.out.rows) (by omega) (by omega) (by omega) (by omega)).mono ?_
    rintro e wh15 ⟨rfl, hq⟩
    have s15 : we14.heap.size ≤ wh15.heap.size := Below.size (hq.below we14.heap.size)
    have q15 := Lib.hid (q14.out.trans (Below.mono (hq.below we14.heap.size) q14.out.size))
    have O2_15 := Lib.hid (O2_14.out.below (Below.mono (hq.below we14.heap.size) (by omega : wr2.heap.size ≤ we14.heap.size)))
    have O4m_15 := Lib.hid (O4m_14.out.below (Below.mono (hq.below we14.heap.size) (by omega : wr4.heap.size ≤ we14.heap.size)))
    have O13_15 := Lib.hid (O13_14.out.below (Below.mono (hq.below we14.heap.size) (by omega : wr13.heap.size ≤ we14.heap.size)))
    clear hq
    go_wp2
    go_ret
    exact ⟨rfl, q15.out⟩

set_option maxRecDepth 100000 in
theorem fnExactLineDistances_lifted (os : Os) (started : os.Started) (H : Type) (enc : TypeId × Value → H) :
    ReturnsInHanded {} Try.checked os 3 .any (Rows.fnExactLineDistancesSpec.pre6 enc Try.prog Try.f3 Rows.fnExactLineDistancesRow.domain false) (Rows.fnExactLineDistancesSpec.post enc Try.prog Try.f3 false true false false) := by
  refine returnsInHanded_of_change (C := Try.checked) own_knob started (by kernel_rfl) Try.func3
    (ChangeSpec.witness6 (enc := enc) (C := Try.checked) false ⟨#[], #[.slice none 0 0], []⟩ 8 (by kernel_rfl) (by kernel_rfl) (by kernel_rfl) (by kernel_rfl)) ?_
  intro W base args ds gs before hval0 hW hcnd _
  have hval : ∀ (j : Nat) t v, Try.f3.params[j]? = some t → args[j]? = some v → Value.okWide Try.prog W .any base t v := hval0
  have hW' := hW
  obtain ⟨p, q, hA0, hV, rfl, hfz, hnd⟩ := hW
  have hA : DataW.TrodAll enc Try.prog W 0 (fun _ => true) true Try.f3.params.toList args.toList ds p := hA0
  rw [Try.params3] at hA hval
  obtain ⟨v0, vs0, d0, ds0, p0, q0, hargs, rfl, rfl, h0, r0⟩ := trodAll_cons hA
  obtain ⟨rfl, rfl, rfl⟩ := trodAll_nil r0
  obtain rfl : args = #[v0] := by cases args; simp_all
  obtain ⟨rfl, rfl⟩ := trodVars_none hV
  obtain ⟨a0, len0, cap0, rfl⟩ := okWide_slice Try.underlying22 (hval 0 22 v0 rfl rfl)
  have k0 := h0
  have lt0 : ∀ x ∈ p0, x.block < W.heap.size := by obtain ⟨m, hm⟩ := k0; exact DataW.trod_lt m _ _ _ hm
  obtain ⟨xs0, rfl, g0, l0, m0, z0⟩ := open_list Try.underlying22 Try.underlying3 (by kernel_rfl) h0
  clear hA0 hval0
  refine (fnExactLineDistances_walk W a0 cap0 xs0 g0 l0 m0 z0).mono fun e W' ⟨he, bel⟩ => ?_
  subst he
  exact ⟨_, rfl, _, _, _, [], _, [], hW', trodAll_mk1 (shut_bool Try.underlying4 _), (trodAll_cons_mk (Below.trod laid_out (by kernel_rfl) (of_decide_eq_true (by kernel_rfl)) k0 bel lt0) trodAll_mk0), rfl, bel.frame _, fun h => by cases h⟩

theorem fnExactLineDistances_holds : Rows.FnExactLineDistancesSaid :=
  OpenClaim.holds_of_wide 3 Try.f3 rfl rfl rfl rfl rfl rfl rfl ⟨rfl, rfl, rfl, rfl, rfl⟩ rfl rfl rfl rfl rfl (by kernel_rfl) Try.func3 (by kernel_rfl)
    (of_decide_eq_true (by kernel_rfl)) (by unfold Func.isWrapper; first | (rw [if_pos (by decide +kernel)]; kernel_rfl) | (rw [if_neg (by decide +kernel)]; exact ⟨rfl, rfl⟩))
    (fun os started H enc _ => fnExactLineDistances_lifted os started H enc)
#print axioms fnExactLineDistances_holds

end Go.Proofs.Ytgfaeoceipippaa
