/- For every n and plan the program's PatternsOf returns what the reference's returns, in new memory each time; the law returns true and leaves its arguments as they were.
   Conditions: none. -/
import Derived.Test.YthbpeolcmlkneaaOpen
import Derived.Test.YthbpeolcmlkneaaPatsOf
import Derived.Test.YthbpeolcmlkneaaMarkT
namespace Go.Proofs.Ythbpeolcmlkneaa
theorem patsF_len (n : Int) (plan : List (List Int)) : (patsF n plan).length ≤ 1048576 := by
  unfold patsF
  split
  · rename_i h
    have := (plan_of h).ten
    rw [patsFrom_length]; omega
  · simp
end Go.Proofs.Ythbpeolcmlkneaa
namespace Go.Proofs.Ythbpeolcmlkneaa
open Go.ChangeShapes Go.WideShapes Go.ChangeAt Go.RowKit
open Go.ChangeMaps (open_string shut_string)
set_option linter.unusedVariables false

set_option maxHeartbeats 4000000 in
theorem fnExactPatternsOf_walk (w : World) (a0 : Int) (w0 : I64 a0) (A1 : Option Addr) (c1 : Nat) (x1 : List (List Int)) (g1 : Rows w A1 x1) (l1 : x1.length ≤ c1) (m1 : c1 ≤ maxLen) (z1 : ∀ xs ∈ x1, ∀ x ∈ xs, I64 x) :
    Calls Try.prog 8 #[.int .i64 a0, .slice A1 x1.length c1] w fun e w' => e = .returned (.bool true) ∧ Below w.heap.size w w' := by
  have q0 : Hid (Below w.heap.size w w) := Lib.hid (Below.refl _ _)
  have L1 := Lib.hid (Nat.le_trans l1 m1)
  have G1 := Lib.hid g1
  have Z1 := Lib.hid z1
  clear g1 l1 m1 z1
  have W0 := Lib.hid w0
  clear w0
  have hz1 : szRows x1 (1048576 : Int) ≤ 1048576 := by have := szRows_le x1 (1048576 : Int); omega
  by_cases hs1 : szRows x1 (1048576 : Int) < 0
  · generalize hS1 : szRows x1 (1048576 : Int) = S1 at hs1 hz1
    have HS1 := Lib.hid hS1
    clear hS1
    go_enter Try.func8, Try.ntmps8
    go_wp2_with fail
    refine (calls_v (szIntSS_c _ _ _ _ _ G1.out L1.out (by omega) (by omega)) (congrArg (Value.int .i64) HS1.out)).mono ?_
    rintro e w1 ⟨rfl, u1, rfl⟩
    go_wp2
    go_ret
    exact ⟨rfl, q0.out.trans (below_drewN _ _ _)⟩
  · have B1 := Lib.hid (bdR_of (l := (1048576 : Int)) (by omega) (by omega) Z1.out : BdR x1)
    generalize hS1 : szRows x1 (1048576 : Int) = S1 at hs1 hz1
    have HS1 := Lib.hid hS1
    clear hS1
    have hs1' : 0 ≤ S1 := by omega
    clear hs1
    have nx1 : x1.length ≤ 1048576 := B1.out.1
    have tx1 : total x1 ≤ 1048576 := B1.out.2.1
    have vlen : (patsF a0 x1).length ≤ 1048576 := patsF_len _ _
    generalize hV : patsF a0 x1 = V at vlen
    have HV := Lib.hid hV
    clear hV
    go_enter Try.func8, Try.ntmps8
    go_wp2_with fail
    refine (calls_v (szIntSS_c _ _ _ _ _ (G1.out.keep (keep_of_below q0.out)) L1.out (by omega) (by omega)) (congrArg (Value.int .i64) HS1.out)).mono ?_
    rintro e ws1 ⟨rfl, hq⟩
    have s1 : w.heap.size ≤ ws1.heap.size := Below.size (hq.below w.heap.size)
    have q1 := Lib.hid (q0.out.trans (Below.mono (hq.below w.heap.size) q0.out.size))
    clear hq
    go_wp2_with fail
    refine (toIntSS_c _ _ _ _ (G1.out.keep (keep_of_below q1.out)) B1.out.1 (fun xs h => (B1.out.2.2 xs h).1)).mono ?_
    rintro e wc1 ⟨C1, d1, rfl, ho1, hb1⟩
    have s2 : ws1.heap.size ≤ wc1.heap.size := Below.size hb1
    have q2 := Lib.hid (q1.out.trans (Below.mono hb1 q1.out.size))
    have O1 := Lib.hid ho1
    clear ho1 hb1
    go_wp2_with fail
    refine (givesS_v (sPatternsOf_c _ _ _ _ _ O1.out.rows B1.out.1) HV.out).mono ?_
    rintro e wr2 ⟨C2, d2, rfl, ho2, hb2⟩
    have s3 : wc1.heap.size ≤ wr2.heap.size := Below.size hb2
    have q3 := Lib.hid (q2.out.trans (Below.mono hb2 q2.out.size))
    have O1_3 := Lib.hid (O1.out.below (Below.mono hb2 (by omega : wc1.heap.size ≤ wc1.heap.size)))
    have O2 := Lib.hid ho2
    clear ho2 hb2
    go_wp2_with fail
    refine (toIntSS_c _ _ _ _ (G1.out.keep (keep_of_below q3.out)) B1.out.1 (fun xs h => (B1.out.2.2 xs h).1)).mono ?_
    rintro e wc3 ⟨C3, d3, rfl, ho3, hb3⟩
    have s4 : wr2.heap.size ≤ wc3.heap.size := Below.size hb3
    have q4 := Lib.hid (q3.out.trans (Below.mono hb3 q3.out.size))
    have O2_4 := Lib.hid (O2.out.below (Below.mono hb3 (by omega : wr2.heap.size ≤ wr2.heap.size)))
    have O3 := Lib.hid ho3
    clear ho3 hb3
    go_wp2_with fail
    refine (givesS_v (iPatternsOf_c _ _ _ _ _ O3.out.rows B1.out.1) HV.out).mono ?_
    rintro e wr4 ⟨C4, d4, rfl, ho4, hb4⟩
    have s5 : wc3.heap.size ≤ wr4.heap.size := Below.size hb4
    have q5 := Lib.hid (q4.out.trans (Below.mono hb4 q4.out.size))
    have O2_5 := Lib.hid (O2_4.out.below (Below.mono hb4 (by omega : wr2.heap.size ≤ wc3.heap.size)))
    have O3_5 := Lib.hid (O3.out.below (Below.mono hb4 (by omega : wc3.heap.size ≤ wc3.heap.size)))
    have O4 := Lib.hid ho4
    clear ho4 hb4
    go_wp2_with fail
    refine (eqStringS_c _ _ _ _ _ _ (O4.out.strs) (O2_5.out.strs) (by omega)).mono ?_
    rintro e we5 ⟨rfl, hq⟩
    have s6 : wr4.heap.size ≤ we5.heap.size := Below.size (hq.below wr4.heap.size)
    have q6 := Lib.hid (q5.out.trans (Below.mono (hq.below wr4.heap.size) q5.out.size))
    have O2_6 := Lib.hid (O2_5.out.below (Below.mono (hq.below wr4.heap.size) (by omega : wr2.heap.size ≤ wr4.heap.size)))
    have O3_6 := Lib.hid (O3_5.out.below (Below.mono (hq.below wr4.heap.size) (by omega : wc3.heap.size ≤ wr4.heap.size)))
    have O4_6 := Lib.hid (O4.out.below (Below.mono (hq.below wr4.heap.size) (by omega : wr4.heap.size ≤ wr4.heap.size)))
    clear hq
    go_wp2_with fail
    refine (toIntSS_c _ _ _ _ (G1.out.keep (keep_of_below q6.out)) B1.out.1 (fun xs h => (B1.out.2.2 xs h).1)).mono ?_
    rintro e wc6 ⟨C6, d6, rfl, ho6, hb6⟩
    have s7 : we5.heap.size ≤ wc6.heap.size := Below.size hb6
    have q7 := Lib.hid (q6.out.trans (Below.mono hb6 q6.out.size))
    have O2_7 := Lib.hid (O2_6.out.below (Below.mono hb6 (by omega : wr2.heap.size ≤ we5.heap.size)))
    have O3_7 := Lib.hid (O3_6.out.below (Below.mono hb6 (by omega : wc3.heap.size ≤ we5.heap.size)))
    have O4_7 := Lib.hid (O4_6.out.below (Below.mono hb6 (by omega : wr4.heap.size ≤ we5.heap.size)))
    have O6 := Lib.hid ho6
    clear ho6 hb6
    go_wp2_with fail
    refine (calls_v (eqIntSS_c _ _ _ _ _ _ _ (O3_7.out.rows) (O6.out.rows) (by unfold maxLen; omega)) (congrArg Value.bool (decide_eq_true rfl))).mono ?_
    rintro e we7 ⟨rfl, hq⟩
    have s8 : wc6.heap.size ≤ we7.heap.size := Below.size (hq.below wc6.heap.size)
    have q8 := Lib.hid (q7.out.trans (Below.mono (hq.below wc6.heap.size) q7.out.size))
    have O2_8 := Lib.hid (O2_7.out.below (Below.mono (hq.below wc6.heap.size) (by omega : wr2.heap.size ≤ wc6.heap.size)))
    have O3_8 := Lib.hid (O3_7.out.below (Below.mono (hq.below wc6.heap.size) (by omega : wc3.heap.size ≤ wc6.heap.size)))
    have O4_8 := Lib.hid (O4_7.out.below (Below.mono (hq.below wc6.heap.size) (by omega : wr4.heap.size ≤ wc6.heap.size)))
    have O6_8 := Lib.hid (O6.out.below (Below.mono (hq.below wc6.heap.size) (by omega : wc6.heap.size ≤ wc6.heap.size)))
    clear hq
    go_wp2_with fail
    refine (markIntSS_c _ _ _ _ _ _ _ O3_8.out (by omega) (by omega) (by omega) (by omega) (by omega)).mono ?_
    rintro e wm8 ⟨rfl, ho8, hy8⟩
    have s9 : we7.heap.size ≤ wm8.heap.size := Only.size hy8
    have q9 := Lib.hid (q8.out.trans (below_of_only hy8 (by omega) q8.out.size))
    have O2_9 := Lib.hid (O2_8.out.only hy8 (by omega) (by omega))
    have O4_9 := Lib.hid (O4_8.out.only hy8 (by omega) (by omega))
    have O3m := Lib.hid ho8
    clear ho8 hy8
    go_wp2_with fail
    refine (eqStringS_c _ _ _ _ _ _ (O4_9.out.strs) (O2_9.out.strs) (by omega)).mono ?_
    rintro e we9 ⟨rfl, hq⟩
    have s10 : wm8.heap.size ≤ we9.heap.size := Below.size (hq.below wm8.heap.size)
    have q10 := Lib.hid (q9.out.trans (Below.mono (hq.below wm8.heap.size) q9.out.size))
    have O2_10 := Lib.hid (O2_9.out.below (Below.mono (hq.below wm8.heap.size) (by omega : wr2.heap.size ≤ wm8.heap.size)))
    have O4_10 := Lib.hid (O4_9.out.below (Below.mono (hq.below wm8.heap.size) (by omega : wr4.heap.size ≤ wm8.heap.size)))
    have O3m_10 := Lib.hid (O3m.out.below (Below.mono (hq.below wm8.heap.size) (by omega : wc3.heap.size ≤ wm8.heap.size)))
    clear hq
    go_wp2_with fail
    refine (markStringS1_c _ _ _ _ _ _ O4_10.out (by omega) (by omega)).mono ?_
    rintro e wm10 ⟨rfl, ho10, hy10⟩
    have s11 : we9.heap.size ≤ wm10.heap.size := Only.size hy10
    have q11 := Lib.hid (q10.out.trans (below_of_only hy10 (by omega) q10.out.size))
    have O2_11 := Lib.hid (O2_10.out.only hy10 (by omega) (by omega))
    have O4m := Lib.hid ho10
    clear ho10 hy10
    go_wp2_with fail
    refine (heldStringS1_c _ _ _ _ (O4m.out.strs) (by omega)).mono ?_
    rintro e wh11 ⟨rfl, hb⟩
    have s12 : wm10.heap.size ≤ wh11.heap.size := Below.size hb
    have q12 := Lib.hid (q11.out.trans (Below.mono hb q11.out.size))
    have O2_12 := Lib.hid (O2_11.out.below (Below.mono hb (by omega : wr2.heap.size ≤ wm10.heap.size)))
    have O4m_12 := Lib.hid (O4m.out.below (Below.mono hb (by omega : wr4.heap.size ≤ wm10.heap.size)))
    clear hb
    go_wp2_with fail
    refine (toIntSS_c _ _ _ _ (G1.out.keep (keep_of_below q12.out)) B1.out.1 (fun xs h => (B1.out.2.2 xs h).1)).mono ?_
    rintro e wc12 ⟨C12, d12, rfl, ho12, hb12⟩
    have s13 : wh11.heap.size ≤ wc12.heap.size := Below.size hb12
    have q13 := Lib.hid (q12.out.trans (Below.mono hb12 q12.out.size))
    have O2_13 := Lib.hid (O2_12.out.below (Below.mono hb12 (by omega : wr2.heap.size ≤ wh11.heap.size)))
    have O4m_13 := Lib.hid (O4m_12.out.below (Below.mono hb12 (by omega : wr4.heap.size ≤ wh11.heap.size)))
    have O12 := Lib.hid ho12
    clear ho12 hb12
    go_wp2_with fail
    refine (givesS_v (iPatternsOf_c _ _ _ _ _ O12.out.rows B1.out.1) HV.out).mono ?_
    rintro e wr13 ⟨C13, d13, rfl, ho13, hb13⟩
    have s14 : wc12.heap.size ≤ wr13.heap.size := Below.size hb13
    have q14 := Lib.hid (q13.out.trans (Below.mono hb13 q13.out.size))
    have O2_14 := Lib.hid (O2_13.out.below (Below.mono hb13 (by omega : wr2.heap.size ≤ wc12.heap.size)))
    have O4m_14 := Lib.hid (O4m_13.out.below (Below.mono hb13 (by omega : wr4.heap.size ≤ wc12.heap.size)))
    have O12_14 := Lib.hid (O12.out.below (Below.mono hb13 (by omega : wc12.heap.size ≤ wc12.heap.size)))
    have O13 := Lib.hid ho13
    clear ho13 hb13
    go_wp2_with fail
    refine (eqStringS_c _ _ _ _ _ _ (O13.out.strs) (O2_14.out.strs) (by omega)).mono ?_
    rintro e we14 ⟨rfl, hq⟩
    have s15 : wr13.heap.size ≤ we14.heap.size := Below.size (hq.below wr13.heap.size)
    have q15 := Lib.hid (q14.out.trans (Below.mono (hq.below wr13.heap.size) q14.out.size))
    have O2_15 := Lib.hid (O2_14.out.below (Below.mono (hq.below wr13.heap.size) (by omega : wr2.heap.size ≤ wr13.heap.size)))
    have O4m_15 := Lib.hid (O4m_14.out.below (Below.mono (hq.below wr13.heap.size) (by omega : wr4.heap.size ≤ wr13.heap.size)))
    have O13_15 := Lib.hid (O13.out.below (Below.mono (hq.below wr13.heap.size) (by omega : wr13.heap.size ≤ wr13.heap.size)))
    clear hq
    go_wp2_with fail
    refine (heldStringS1_c _ _ _ _ (O4m_15.out.strs) (by omega)).mono ?_
    rintro e wh15 ⟨rfl, hb⟩
    have s16 : we14.heap.size ≤ wh15.heap.size := Below.size hb
    have q16 := Lib.hid (q15.out.trans (Below.mono hb q15.out.size))
    have O2_16 := Lib.hid (O2_15.out.below (Below.mono hb (by omega : wr2.heap.size ≤ we14.heap.size)))
    have O4m_16 := Lib.hid (O4m_15.out.below (Below.mono hb (by omega : wr4.heap.size ≤ we14.heap.size)))
    have O13_16 := Lib.hid (O13_15.out.below (Below.mono hb (by omega : wr13.heap.size ≤ we14.heap.size)))
    clear hb
    go_wp2
    go_ret
    exact ⟨rfl, q16.out⟩

set_option maxRecDepth 100000 in
theorem fnExactPatternsOf_lifted (os : Os) (started : os.Started) (H : Type) (enc : TypeId × Value → H) :
    ReturnsInHanded {} Try.checked os 8 .any (Rows.fnExactPatternsOfSpec.pre6 enc Try.prog Try.f8 Rows.fnExactPatternsOfRow.domain false) (Rows.fnExactPatternsOfSpec.post enc Try.prog Try.f8 false true false false) := by
  refine returnsInHanded_of_change (C := Try.checked) own_knob started (by kernel_rfl) Try.func8
    (ChangeSpec.witness6 (enc := enc) (C := Try.checked) false ⟨#[], #[.int .i64 0, .slice none 0 0], []⟩ 8 (by kernel_rfl) (by kernel_rfl) (by kernel_rfl) (by kernel_rfl)) ?_
  intro W base args ds gs before hval0 hW hcnd _
  have hval : ∀ (j : Nat) t v, Try.f8.params[j]? = some t → args[j]? = some v → Value.okWide Try.prog W .any base t v := hval0
  have hW' := hW
  obtain ⟨p, q, hA0, hV, rfl, hfz, hnd⟩ := hW
  have hA : DataW.TrodAll enc Try.prog W 0 (fun _ => true) true Try.f8.params.toList args.toList ds p := hA0
  rw [Try.params8] at hA hval
  obtain ⟨v0, vs0, d0, ds0, p0, q0, hargs, rfl, rfl, h0, r0⟩ := trodAll_cons hA
  obtain ⟨v1, vs1, d1, ds1, p1, q1, rfl, rfl, rfl, h1, r1⟩ := trodAll_cons r0
  obtain ⟨rfl, rfl, rfl⟩ := trodAll_nil r1
  obtain rfl : args = #[v0, v1] := by cases args; simp_all
  obtain ⟨rfl, rfl⟩ := trodVars_none hV
  obtain ⟨a0, rfl, rfl, rfl, w0⟩ := open_int Try.underlying3 (hval 0 3 v0 rfl rfl) h0
  obtain ⟨a1, len1, cap1, rfl⟩ := okWide_slice Try.underlying22 (hval 1 22 v1 rfl rfl)
  have k1 := h1
  have lt1 : ∀ x ∈ p1, x.block < W.heap.size := by obtain ⟨m, hm⟩ := k1; exact DataW.trod_lt m _ _ _ hm
  obtain ⟨xs1, rfl, g1, l1, m1, z1⟩ := open_lists Try.underlying22 Try.underlying38 Try.underlying3 (by kernel_rfl) (by kernel_rfl) h1
  clear hA0 hval0
  refine (fnExactPatternsOf_walk W a0 (i64_of_wf w0) a1 cap1 xs1 g1 l1 m1 z1).mono fun e W' ⟨he, bel⟩ => ?_
  subst he
  exact ⟨_, rfl, _, _, _, [], _, [], hW', trodAll_mk1 (shut_bool Try.underlying4 _), (trodAll_cons_mk (shut_int Try.underlying3 w0) (trodAll_cons_mk (Below.trod laid_out (by kernel_rfl) (of_decide_eq_true (by kernel_rfl)) k1 bel lt1) trodAll_mk0)), rfl, bel.frame _, fun h => by cases h⟩

theorem fnExactPatternsOf_holds : Rows.FnExactPatternsOfSaid :=
  OpenClaim.holds_of_wide 8 Try.f8 rfl rfl rfl rfl rfl rfl rfl ⟨rfl, rfl, rfl, rfl, rfl⟩ rfl rfl rfl rfl rfl (by kernel_rfl) Try.func8 (by kernel_rfl)
    (of_decide_eq_true (by kernel_rfl)) (by unfold Func.isWrapper; first | (rw [if_pos (by decide +kernel)]; kernel_rfl) | (rw [if_neg (by decide +kernel)]; exact ⟨rfl, rfl⟩))
    (fun os started H enc _ => fnExactPatternsOf_lifted os started H enc)
#print axioms fnExactPatternsOf_holds

end Go.Proofs.Ythbpeolcmlkneaa
