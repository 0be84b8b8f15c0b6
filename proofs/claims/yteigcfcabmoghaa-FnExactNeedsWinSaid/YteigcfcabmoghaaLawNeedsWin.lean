/- For all points, games and clubs the program's NeedsWin returns what the reference's returns; the law returns true and leaves its arguments as they were.
   Conditions: none. -/
import Derived.Test.YteigcfcabmoghaaNeedI
import Derived.Test.YteigcfcabmoghaaCap
namespace Go.Proofs.Yteigcfcabmoghaa
open Go.ChangeShapes Go.WideShapes Go.ChangeAt Go.RowKit
open Go.ChangeMaps (open_string shut_string)
set_option linter.unusedVariables false

set_option maxHeartbeats 2000000 in
theorem fnExactNeedsWin_walk (w : World) (A0 : Option Addr) (c0 : Nat) (x0 : List Int) (g0 : Ints w A0 x0) (l0 : x0.length ≤ c0) (m0 : c0 ≤ maxLen) (z0 : ∀ x ∈ x0, I64 x) (A1 : Option Addr) (c1 : Nat) (x1 : List (List Int)) (g1 : Rows w A1 x1) (l1 : x1.length ≤ c1) (m1 : c1 ≤ maxLen) (z1 : ∀ xs ∈ x1, ∀ x ∈ xs, I64 x) (a2 : Int) (w2 : I64 a2) :
    Calls Try.prog 10 #[.slice A0 x0.length c0, .slice A1 x1.length c1, .int .i64 a2] w fun e w' => e = .returned (.bool true) ∧ Below w.heap.size w w' := by
  have q0 : Hid (Below w.heap.size w w) := Lib.hid (Below.refl _ _)
  have L0 := Lib.hid (Nat.le_trans l0 m0)
  have L1 := Lib.hid (Nat.le_trans l1 m1)
  have G0_0 := Lib.hid g0
  have G1_0 := Lib.hid g1
  have Z0 := Lib.hid z0
  have Z1 := Lib.hid z1
  clear g0 l0 m0 z0 g1 l1 m1 z1
  have W2 := Lib.hid w2
  clear w2
  by_cases hb0 : 1048576 < x0.length
  · go_enter Try.func10, Try.ntmps10
    go_wp2
    go_ret
    exact ⟨rfl, q0.out⟩
  · have hb0' : x0.length ≤ 1048576 := by omega
    have hz1 : szRows x1 (1048576 : Int) ≤ 1048576 := by have := szRows_le x1 (1048576 : Int); omega
    by_cases hs1 : szRows x1 (1048576 : Int) < 0
    · generalize hS1 : szRows x1 (1048576 : Int) = S1 at hs1 hz1
      have HS1 := Lib.hid hS1
      clear hS1
      go_enter Try.func10, Try.ntmps10
      go_wp2_with fail
      refine (calls_v (szIntSS_c _ _ _ _ _ G1_0.out L1.out (by omega) (by omega)) (congrArg (Value.int .i64) HS1.out)).mono ?_
      rintro e w1 ⟨rfl, u1, rfl⟩
      go_wp2
      go_ret
      exact ⟨rfl, q0.out.trans (below_drewN _ _ _)⟩
    · have B1 := Lib.hid (bdR_of (l := (1048576 : Int)) (by omega) (by omega) Z1.out : BdR x1)
      generalize hS1 : szRows x1 (1048576 : Int) = S1 at hs1 hz1
      have HS1 := Lib.hid hS1
      clear hS1
      have hs1' : 0 ≤ S1 := by omega
      clear hs1
      have B0 : Hid (BdI x0) := Lib.hid ⟨by omega, Z0.out⟩
      go_enter Try.func10, Try.ntmps10
      go_wp2_with fail
      refine (calls_v (szIntSS_c _ _ _ _ _ G1_0.out L1.out (by omega) (by omega)) (congrArg (Value.int .i64) HS1.out)).mono ?_
      rintro e ws1 ⟨rfl, hq⟩
      have K1 := Lib.hid (keep_of_below (hq.below _))
      have q1 := Lib.hid (q0.out.trans (Below.mono (hq.below _) q0.out.size))
      have G0_1 := Lib.hid (G0_0.out.keep K1.out)
      have G1_1 := Lib.hid (G1_0.out.keep K1.out)
      clear hq
      go_wp2_with fail
      refine (toIntS_c _ _ _ _ G0_1.out B0.out.1).mono ?_
      rintro e wc1 ⟨C1, d1, rfl, ho1, hb1⟩
      have K2 := Lib.hid (keep_of_below hb1)
      have q2 := Lib.hid (q1.out.trans (Below.mono hb1 q1.out.size))
      have G0_2 := Lib.hid (G0_1.out.keep K2.out)
      have G1_2 := Lib.hid (G1_1.out.keep K2.out)
      have R1 := Lib.hid ho1.ints
      clear ho1 hb1
      go_wp2_with fail
      refine (toIntSS_c _ _ _ _ G1_2.out B1.out.1 (fun xs h => (B1.out.2.2 xs h).1)).mono ?_
      rintro e wc2 ⟨C2, d2, rfl, ho2, hb2⟩
      have K3 := Lib.hid (keep_of_below hb2)
      have q3 := Lib.hid (q2.out.trans (Below.mono hb2 q2.out.size))
      have G0_3 := Lib.hid (G0_2.out.keep K3.out)
      have G1_3 := Lib.hid (G1_2.out.keep K3.out)
      have R1_3 := Lib.hid (R1.out.keep K3.out)
      have R2 := Lib.hid ho2.rows
      clear ho2 hb2
      go_wp2_with fail
      refine (sNeedsWin_c _ _ _ _ _ _ _ _ R1_3.out R2.out B0.out.1).mono ?_
      rintro e wS ⟨rfl, hb⟩
      have K4 := Lib.hid (keep_of_below hb)
      have q4 := Lib.hid (q3.out.trans (Below.mono hb q3.out.size))
      have G0_4 := Lib.hid (G0_3.out.keep K4.out)
      have G1_4 := Lib.hid (G1_3.out.keep K4.out)
      have R1_4 := Lib.hid (R1_3.out.keep K4.out)
      have R2_4 := Lib.hid (R2.out.keep K4.out)
      clear hb
      go_wp2_with fail
      refine (toIntS_c _ _ _ _ G0_4.out B0.out.1).mono ?_
      rintro e wc3 ⟨C3, d3, rfl, ho3, hb3⟩
      have K5 := Lib.hid (keep_of_below hb3)
      have q5 := Lib.hid (q4.out.trans (Below.mono hb3 q4.out.size))
      have G0_5 := Lib.hid (G0_4.out.keep K5.out)
      have G1_5 := Lib.hid (G1_4.out.keep K5.out)
      have R1_5 := Lib.hid (R1_4.out.keep K5.out)
      have R2_5 := Lib.hid (R2_4.out.keep K5.out)
      have R3 := Lib.hid ho3.ints
      clear ho3 hb3
      go_wp2_with fail
      refine (toIntSS_c _ _ _ _ G1_5.out B1.out.1 (fun xs h => (B1.out.2.2 xs h).1)).mono ?_
      rintro e wc4 ⟨C4, d4, rfl, ho4, hb4⟩
      have K6 := Lib.hid (keep_of_below hb4)
      have q6 := Lib.hid (q5.out.trans (Below.mono hb4 q5.out.size))
      have G0_6 := Lib.hid (G0_5.out.keep K6.out)
      have G1_6 := Lib.hid (G1_5.out.keep K6.out)
      have R1_6 := Lib.hid (R1_5.out.keep K6.out)
      have R2_6 := Lib.hid (R2_5.out.keep K6.out)
      have R3_6 := Lib.hid (R3.out.keep K6.out)
      have R4 := Lib.hid ho4.rows
      clear ho4 hb4
      go_wp2_with fail
      refine (iNeedsWin_c _ _ _ _ _ _ _ _ R3_6.out R4.out B0.out.1).mono ?_
      rintro e wI ⟨rfl, hb⟩
      have K7 := Lib.hid (keep_of_below hb)
      have q7 := Lib.hid (q6.out.trans (Below.mono hb q6.out.size))
      have G0_7 := Lib.hid (G0_6.out.keep K7.out)
      have G1_7 := Lib.hid (G1_6.out.keep K7.out)
      have R1_7 := Lib.hid (R1_6.out.keep K7.out)
      have R2_7 := Lib.hid (R2_6.out.keep K7.out)
      have R3_7 := Lib.hid (R3_6.out.keep K7.out)
      have R4_7 := Lib.hid (R4.out.keep K7.out)
      clear hb
      go_wp2_with fail
      refine (toIntS_c _ _ _ _ G0_7.out B0.out.1).mono ?_
      rintro e wc5 ⟨C5, d5, rfl, ho5, hb5⟩
      have K8 := Lib.hid (keep_of_below hb5)
      have q8 := Lib.hid (q7.out.trans (Below.mono hb5 q7.out.size))
      have G0_8 := Lib.hid (G0_7.out.keep K8.out)
      have G1_8 := Lib.hid (G1_7.out.keep K8.out)
      have R1_8 := Lib.hid (R1_7.out.keep K8.out)
      have R2_8 := Lib.hid (R2_7.out.keep K8.out)
      have R3_8 := Lib.hid (R3_7.out.keep K8.out)
      have R4_8 := Lib.hid (R4_7.out.keep K8.out)
      have R5 := Lib.hid ho5.ints
      clear ho5 hb5
      go_wp2_with fail
      refine (calls_v (eqIntS_c _ _ _ _ _ _ _ R3_8.out R5.out (by have := B0.out.1; unfold maxLen; omega)) (congrArg Value.bool (decide_eq_true rfl))).mono ?_
      rintro e we0 ⟨rfl, hq⟩
      have K9 := Lib.hid (keep_of_below (hq.below _))
      have q9 := Lib.hid (q8.out.trans (Below.mono (hq.below _) q8.out.size))
      have G0_9 := Lib.hid (G0_8.out.keep K9.out)
      have G1_9 := Lib.hid (G1_8.out.keep K9.out)
      have R1_9 := Lib.hid (R1_8.out.keep K9.out)
      have R2_9 := Lib.hid (R2_8.out.keep K9.out)
      have R3_9 := Lib.hid (R3_8.out.keep K9.out)
      have R4_9 := Lib.hid (R4_8.out.keep K9.out)
      have R5_9 := Lib.hid (R5.out.keep K9.out)
      clear hq
      go_wp2_with fail
      refine (toIntSS_c _ _ _ _ G1_9.out B1.out.1 (fun xs h => (B1.out.2.2 xs h).1)).mono ?_
      rintro e wc6 ⟨C6, d6, rfl, ho6, hb6⟩
      have K10 := Lib.hid (keep_of_below hb6)
      have q10 := Lib.hid (q9.out.trans (Below.mono hb6 q9.out.size))
      have G0_10 := Lib.hid (G0_9.out.keep K10.out)
      have G1_10 := Lib.hid (G1_9.out.keep K10.out)
      have R1_10 := Lib.hid (R1_9.out.keep K10.out)
      have R2_10 := Lib.hid (R2_9.out.keep K10.out)
      have R3_10 := Lib.hid (R3_9.out.keep K10.out)
      have R4_10 := Lib.hid (R4_9.out.keep K10.out)
      have R5_10 := Lib.hid (R5_9.out.keep K10.out)
      have R6 := Lib.hid ho6.rows
      clear ho6 hb6
      go_wp2_with fail
      refine (calls_v (eqIntSS_c _ _ _ _ _ _ _ R4_10.out R6.out (by have := B1.out.1; unfold maxLen; omega)) (congrArg Value.bool (decide_eq_true rfl))).mono ?_
      rintro e we1 ⟨rfl, hq⟩
      have K11 := Lib.hid (keep_of_below (hq.below _))
      have q11 := Lib.hid (q10.out.trans (Below.mono (hq.below _) q10.out.size))
      have G0_11 := Lib.hid (G0_10.out.keep K11.out)
      have G1_11 := Lib.hid (G1_10.out.keep K11.out)
      have R1_11 := Lib.hid (R1_10.out.keep K11.out)
      have R2_11 := Lib.hid (R2_10.out.keep K11.out)
      have R3_11 := Lib.hid (R3_10.out.keep K11.out)
      have R4_11 := Lib.hid (R4_10.out.keep K11.out)
      have R5_11 := Lib.hid (R5_10.out.keep K11.out)
      have R6_11 := Lib.hid (R6.out.keep K11.out)
      clear hq
      go_wp2
      go_ret
      exact ⟨rfl, q11.out⟩

set_option maxRecDepth 100000 in
theorem fnExactNeedsWin_lifted (os : Os) (started : os.Started) (H : Type) (enc : TypeId × Value → H) :
    ReturnsInHanded {} Try.checked os 10 .any (Rows.fnExactNeedsWinSpec.pre6 enc Try.prog Try.f10 Rows.fnExactNeedsWinRow.domain false) (Rows.fnExactNeedsWinSpec.post enc Try.prog Try.f10 false true false false) := by
  refine returnsInHanded_of_change (C := Try.checked) own_knob started (by kernel_rfl) Try.func10
    (ChangeSpec.witness6 (enc := enc) (C := Try.checked) false ⟨#[], #[.slice none 0 0, .slice none 0 0, .int .i64 0], []⟩ 8 (by kernel_rfl) (by kernel_rfl) (by kernel_rfl) (by kernel_rfl)) ?_
  intro W base args ds gs before hval0 hW hcnd _
  have hval : ∀ (j : Nat) t v, Try.f10.params[j]? = some t → args[j]? = some v → Value.okWide Try.prog W .any base t v := hval0
  have hW' := hW
  obtain ⟨p, q, hA0, hV, rfl, hfz, hnd⟩ := hW
  have hA : DataW.TrodAll enc Try.prog W 0 (fun _ => true) true Try.f10.params.toList args.toList ds p := hA0
  rw [Try.params10] at hA hval
  obtain ⟨v0, vs0, d0, ds0, p0, q0, hargs, rfl, rfl, h0, r0⟩ := trodAll_cons hA
  obtain ⟨v1, vs1, d1, ds1, p1, q1, rfl, rfl, rfl, h1, r1⟩ := trodAll_cons r0
  obtain ⟨v2, vs2, d2, ds2, p2, q2, rfl, rfl, rfl, h2, r2⟩ := trodAll_cons r1
  obtain ⟨rfl, rfl, rfl⟩ := trodAll_nil r2
  obtain rfl : args = #[v0, v1, v2] := by cases args; simp_all
  obtain ⟨rfl, rfl⟩ := trodVars_none hV
  obtain ⟨a0, len0, cap0, rfl⟩ := okWide_slice Try.underlying22 (hval 0 22 v0 rfl rfl)
  have k0 := h0
  have lt0 : ∀ x ∈ p0, x.block < W.heap.size := by obtain ⟨m, hm⟩ := k0; exact DataW.trod_lt m _ _ _ hm
  obtain ⟨xs0, rfl, g0, l0, m0, z0⟩ := open_list Try.underlying22 Try.underlying3 (by kernel_rfl) h0
  obtain ⟨a1, len1, cap1, rfl⟩ := okWide_slice Try.underlying23 (hval 1 23 v1 rfl rfl)
  have k1 := h1
  have lt1 : ∀ x ∈ p1, x.block < W.heap.size := by obtain ⟨m, hm⟩ := k1; exact DataW.trod_lt m _ _ _ hm
  obtain ⟨xs1, rfl, g1, l1, m1, z1⟩ := open_lists Try.underlying23 Try.underlying22 Try.underlying3 (by kernel_rfl) (by kernel_rfl) h1
  obtain ⟨a2, rfl, rfl, rfl, w2⟩ := open_int Try.underlying3 (hval 2 3 v2 rfl rfl) h2
  clear hA0 hval0
  refine (fnExactNeedsWin_walk W a0 cap0 xs0 g0 l0 m0 z0 a1 cap1 xs1 g1 l1 m1 z1 a2 (i64_of_wf w2)).mono fun e W' ⟨he, bel⟩ => ?_
  subst he
  exact ⟨_, rfl, _, _, _, [], _, [], hW', trodAll_mk1 (shut_bool Try.underlying4 _), (trodAll_cons_mk (Below.trod laid_out (by kernel_rfl) (of_decide_eq_true (by kernel_rfl)) k0 bel lt0) (trodAll_cons_mk (Below.trod laid_out (by kernel_rfl) (of_decide_eq_true (by kernel_rfl)) k1 bel lt1) (trodAll_cons_mk (shut_int Try.underlying3 w2) trodAll_mk0))), rfl, bel.frame _, fun h => by cases h⟩

theorem fnExactNeedsWin_holds : Rows.FnExactNeedsWinSaid :=
  OpenClaim.holds_of_wide 10 Try.f10 rfl rfl rfl rfl rfl rfl rfl ⟨rfl, rfl, rfl, rfl, rfl⟩ rfl rfl rfl rfl rfl (by kernel_rfl) Try.func10 (by kernel_rfl)
    (of_decide_eq_true (by kernel_rfl)) (by unfold Func.isWrapper; first | (rw [if_pos (by decide +kernel)]; kernel_rfl) | (rw [if_neg (by decide +kernel)]; exact ⟨rfl, rfl⟩))
    (fun os started H enc _ => fnExactNeedsWin_lifted os started H enc)
#print axioms fnExactNeedsWin_holds

end Go.Proofs.Yteigcfcabmoghaa
