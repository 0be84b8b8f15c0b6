/- For every n, plan, a and b the program's FollowsIn returns what the reference's returns; the law returns true and leaves its arguments as they were.
   Conditions: none. -/
import Derived.Test.YthbpeolcmlkneaaOpen
import Derived.Test.YthbpeolcmlkneaaCarryW

namespace Go.Proofs.Ythbpeolcmlkneaa
open Go.ChangeShapes Go.WideShapes Go.ChangeAt Go.RowKit
open Go.ChangeMaps (open_string shut_string)
set_option linter.unusedVariables false

set_option maxHeartbeats 2000000 in
theorem fnExactFollowsIn_walk (w : World) (a0 : Int) (w0 : I64 a0) (A1 : Option Addr) (c1 : Nat) (x1 : List (List Int)) (g1 : Rows w A1 x1) (l1 : x1.length ≤ c1) (m1 : c1 ≤ maxLen) (z1 : ∀ xs ∈ x1, ∀ x ∈ xs, I64 x) (a2 : Int) (w2 : I64 a2) (a3 : Int) (w3 : I64 a3) :
    Calls Try.prog 6 #[.int .i64 a0, .slice A1 x1.length c1, .int .i64 a2, .int .i64 a3] w fun e w' => e = .returned (.bool true) ∧ Below w.heap.size w w' := by
  have q0 : Hid (Below w.heap.size w w) := Lib.hid (Below.refl _ _)
  have L1 := Lib.hid (Nat.le_trans l1 m1)
  have G1_0 := Lib.hid g1
  have Z1 := Lib.hid z1
  clear g1 l1 m1 z1
  have W0 := Lib.hid w0
  have W2 := Lib.hid w2
  have W3 := Lib.hid w3
  clear w0 w2 w3
  have hz1 : szRows x1 (1048576 : Int) ≤ 1048576 := by have := szRows_le x1 (1048576 : Int); omega
  by_cases hs1 : szRows x1 (1048576 : Int) < 0
  · generalize hS1 : szRows x1 (1048576 : Int) = S1 at hs1 hz1
    have HS1 := Lib.hid hS1
    clear hS1
    go_enter Try.func6, Try.ntmps6
    go_wp2_with fail
    refine (calls_v (szIntSS_c _ _ _ _ _ G1_0.out L1.out (by omega) (by omega)) (congrArg (Value.int .i64) HS1.out)).mono ?_
    rintro e w1 ⟨rfl, u1, rfl⟩
    go_wp2
    go_ret
    exact ⟨rfl, q0.out.trans (below_drewN _ _ _)⟩
  · have B1 := Lib.hid (bdR_of (l := (1048576 : Int)) (by omega) (by omega) Z1.out : BdR x1)
    generalize hS1 : szRows x1 (1048576 : Int) = S1 at hs1 hz1
    have HS1 := Lib.hid hS1
    clear hS1
    have hs1' : 0 ≤ S1 := by omega
    clear hs1
    go_enter Try.func6, Try.ntmps6
    go_wp2_with fail
    refine (calls_v (szIntSS_c _ _ _ _ _ G1_0.out L1.out (by omega) (by omega)) (congrArg (Value.int .i64) HS1.out)).mono ?_
    rintro e ws1 ⟨rfl, hq⟩
    have K1 := Lib.hid (keep_of_below (hq.below _))
    have q1 := Lib.hid (q0.out.trans (Below.mono (hq.below _) q0.out.size))
    have G1_1 := Lib.hid (G1_0.out.keep K1.out)
    clear hq
    go_wp2_with fail
    refine (toIntSS_c _ _ _ _ G1_1.out B1.out.1 (fun xs h => (B1.out.2.2 xs h).1)).mono ?_
    rintro e wc1 ⟨C1, d1, rfl, ho1, hb1⟩
    have K2 := Lib.hid (keep_of_below hb1)
    have q2 := Lib.hid (q1.out.trans (Below.mono hb1 q1.out.size))
    have G1_2 := Lib.hid (G1_1.out.keep K2.out)
    have R1 := Lib.hid ho1.rows
    clear ho1 hb1
    go_wp2_with fail
    refine (sFollowsIn_c _ _ _ _ _ _ _ R1.out B1.out.1).mono ?_
    rintro e wS ⟨rfl, hb⟩
    have K3 := Lib.hid (keep_of_below hb)
    have q3 := Lib.hid (q2.out.trans (Below.mono hb q2.out.size))
    have G1_3 := Lib.hid (G1_2.out.keep K3.out)
    have R1_3 := Lib.hid (R1.out.keep K3.out)
    clear hb
    go_wp2_with fail
    refine (toIntSS_c _ _ _ _ G1_3.out B1.out.1 (fun xs h => (B1.out.2.2 xs h).1)).mono ?_
    rintro e wc2 ⟨C2, d2, rfl, ho2, hb2⟩
    have K4 := Lib.hid (keep_of_below hb2)
    have q4 := Lib.hid (q3.out.trans (Below.mono hb2 q3.out.size))
    have G1_4 := Lib.hid (G1_3.out.keep K4.out)
    have R1_4 := Lib.hid (R1_3.out.keep K4.out)
    have R2 := Lib.hid ho2.rows
    clear ho2 hb2
    go_wp2_with fail
    refine (iFollowsIn_c _ _ _ _ _ _ _ R2.out B1.out.1).mono ?_
    rintro e wI ⟨rfl, hb⟩
    have K5 := Lib.hid (keep_of_below hb)
    have q5 := Lib.hid (q4.out.trans (Below.mono hb q4.out.size))
    have G1_5 := Lib.hid (G1_4.out.keep K5.out)
    have R1_5 := Lib.hid (R1_4.out.keep K5.out)
    have R2_5 := Lib.hid (R2.out.keep K5.out)
    clear hb
    go_wp2_with fail
    refine (toIntSS_c _ _ _ _ G1_5.out B1.out.1 (fun xs h => (B1.out.2.2 xs h).1)).mono ?_
    rintro e wc3 ⟨C3, d3, rfl, ho3, hb3⟩
    have K6 := Lib.hid (keep_of_below hb3)
    have q6 := Lib.hid (q5.out.trans (Below.mono hb3 q5.out.size))
    have G1_6 := Lib.hid (G1_5.out.keep K6.out)
    have R1_6 := Lib.hid (R1_5.out.keep K6.out)
    have R2_6 := Lib.hid (R2_5.out.keep K6.out)
    have R3 := Lib.hid ho3.rows
    clear ho3 hb3
    go_wp2_with fail
    refine (calls_v (eqIntSS_c _ _ _ _ _ _ _ R2_6.out R3.out (by have := B1.out.1; unfold maxLen; omega)) (congrArg Value.bool (decide_eq_true rfl))).mono ?_
    rintro e we1 ⟨rfl, hq⟩
    have K7 := Lib.hid (keep_of_below (hq.below _))
    have q7 := Lib.hid (q6.out.trans (Below.mono (hq.below _) q6.out.size))
    have G1_7 := Lib.hid (G1_6.out.keep K7.out)
    have R1_7 := Lib.hid (R1_6.out.keep K7.out)
    have R2_7 := Lib.hid (R2_6.out.keep K7.out)
    have R3_7 := Lib.hid (R3.out.keep K7.out)
    clear hq
    go_wp2
    go_ret
    exact ⟨rfl, q7.out⟩

set_option maxRecDepth 100000 in
theorem fnExactFollowsIn_lifted (os : Os) (started : os.Started) (H : Type) (enc : TypeId × Value → H) :
    ReturnsInHanded {} Try.checked os 6 .any (Rows.fnExactFollowsInSpec.pre6 enc Try.prog Try.f6 Rows.fnExactFollowsInRow.domain false) (Rows.fnExactFollowsInSpec.post enc Try.prog Try.f6 false true false false) := by
  refine returnsInHanded_of_change (C := Try.checked) own_knob started (by kernel_rfl) Try.func6
    (ChangeSpec.witness6 (enc := enc) (C := Try.checked) false ⟨#[], #[.int .i64 0, .slice none 0 0, .int .i64 0, .int .i64 0], []⟩ 8 (by kernel_rfl) (by kernel_rfl) (by kernel_rfl) (by kernel_rfl)) ?_
  intro W base args ds gs before hval0 hW hcnd _
  have hval : ∀ (j : Nat) t v, Try.f6.params[j]? = some t → args[j]? = some v → Value.okWide Try.prog W .any base t v := hval0
  have hW' := hW
  obtain ⟨p, q, hA0, hV, rfl, hfz, hnd⟩ := hW
  have hA : DataW.TrodAll enc Try.prog W 0 (fun _ => true) true Try.f6.params.toList args.toList ds p := hA0
  rw [Try.params6] at hA hval
  obtain ⟨v0, vs0, d0, ds0, p0, q0, hargs, rfl, rfl, h0, r0⟩ := trodAll_cons hA
  obtain ⟨v1, vs1, d1, ds1, p1, q1, rfl, rfl, rfl, h1, r1⟩ := trodAll_cons r0
  obtain ⟨v2, vs2, d2, ds2, p2, q2, rfl, rfl, rfl, h2, r2⟩ := trodAll_cons r1
  obtain ⟨v3, vs3, d3, ds3, p3, q3, rfl, rfl, rfl, h3, r3⟩ := trodAll_cons r2
  obtain ⟨rfl, rfl, rfl⟩ := trodAll_nil r3
  obtain rfl : args = #[v0, v1, v2, v3] := by cases args; simp_all
  obtain ⟨rfl, rfl⟩ := trodVars_none hV
  obtain ⟨a0, rfl, rfl, rfl, w0⟩ := open_int Try.underlying3 (hval 0 3 v0 rfl rfl) h0
  obtain ⟨a1, len1, cap1, rfl⟩ := okWide_slice Try.underlying22 (hval 1 22 v1 rfl rfl)
  have k1 := h1
  have lt1 : ∀ x ∈ p1, x.block < W.heap.size := by obtain ⟨m, hm⟩ := k1; exact DataW.trod_lt m _ _ _ hm
  obtain ⟨xs1, rfl, g1, l1, m1, z1⟩ := open_lists Try.underlying22 Try.underlying38 Try.underlying3 (by kernel_rfl) (by kernel_rfl) h1
  obtain ⟨a2, rfl, rfl, rfl, w2⟩ := open_int Try.underlying3 (hval 2 3 v2 rfl rfl) h2
  obtain ⟨a3, rfl, rfl, rfl, w3⟩ := open_int Try.underlying3 (hval 3 3 v3 rfl rfl) h3
  clear hA0 hval0
  refine (fnExactFollowsIn_walk W a0 (i64_of_wf w0) a1 cap1 xs1 g1 l1 m1 z1 a2 (i64_of_wf w2) a3 (i64_of_wf w3)).mono fun e W' ⟨he, bel⟩ => ?_
  subst he
  exact ⟨_, rfl, _, _, _, [], _, [], hW', trodAll_mk1 (shut_bool Try.underlying4 _), (trodAll_cons_mk (shut_int Try.underlying3 w0) (trodAll_cons_mk (Below.trod laid_out (by kernel_rfl) (of_decide_eq_true (by kernel_rfl)) k1 bel lt1) (trodAll_cons_mk (shut_int Try.underlying3 w2) (trodAll_cons_mk (shut_int Try.underlying3 w3) trodAll_mk0)))), rfl, bel.frame _, fun h => by cases h⟩

theorem fnExactFollowsIn_holds : Rows.FnExactFollowsInSaid :=
  OpenClaim.holds_of_wide 6 Try.f6 rfl rfl rfl rfl rfl rfl rfl ⟨rfl, rfl, rfl, rfl, rfl⟩ rfl rfl rfl rfl rfl (by kernel_rfl) Try.func6 (by kernel_rfl)
    (of_decide_eq_true (by kernel_rfl)) (by unfold Func.isWrapper; first | (rw [if_pos (by decide +kernel)]; kernel_rfl) | (rw [if_neg (by decide +kernel)]; exact ⟨rfl, rfl⟩))
    (fun os started H enc _ => fnExactFollowsIn_lifted os started H enc)
#print axioms fnExactFollowsIn_holds

end Go.Proofs.Ythbpeolcmlkneaa
