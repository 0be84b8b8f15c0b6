/- For all arguments the program's LackingSet returns what the reference's returns; the law returns true and leaves its arguments as they were.
   Conditions: none. -/
import Derived.Test.YteefbnadjjcpkaaMost
namespace Go.Proofs.Yteefbnadjjcpkaa
open Go.ChangeShapes Go.WideShapes Go.ChangeAt Go.RowKit
open Go.ChangeMaps (open_string shut_string)
set_option linter.unusedVariables false

set_option maxHeartbeats 2000000 in
theorem fnExactLackingSet_walk (w : World) (A0 : Option Addr) (c0 : Nat) (x0 : List ByteArray) (g0 : Strs w A0 x0) (l0 : x0.length ≤ c0) (m0 : c0 ≤ maxLen) (z0 : ∀ s ∈ x0, s.size ≤ maxLen) :
    Calls Try.prog 10 #[.slice A0 x0.length c0] w fun e w' => e = .returned (.bool true) ∧ Below w.heap.size w w' := by
  have q0 : Hid (Below w.heap.size w w) := Lib.hid (Below.refl _ _)
  have L0 := Lib.hid (Nat.le_trans l0 m0)
  have G0_0 := Lib.hid g0
  have Z0 := Lib.hid z0
  clear g0 l0 m0 z0
  have hz0 : szStrs x0 (1048576 : Int) ≤ 1048576 := by have := szStrs_le x0 (1048576 : Int); omega
  by_cases hs0 : szStrs x0 (1048576 : Int) < 0
  · generalize hS0 : szStrs x0 (1048576 : Int) = S0 at hs0 hz0
    have HS0 := Lib.hid hS0
    clear hS0
    go_enter Try.func10, Try.ntmps10
    go_wp2_with fail
    refine (calls_v (szStringS_c _ _ _ _ _ G0_0.out L0.out Z0.out (by omega) (by omega)) (congrArg (Value.int .i64) HS0.out)).mono ?_
    rintro e w1 ⟨rfl, u0, rfl⟩
    go_wp2
    go_ret
    exact ⟨rfl, q0.out.trans (below_drewN _ _ _)⟩
  · have B0 := Lib.hid (bdS_of (l := (1048576 : Int)) (by omega) (by omega) : BdS x0)
    generalize hS0 : szStrs x0 (1048576 : Int) = S0 at hs0 hz0
    have HS0 := Lib.hid hS0
    clear hS0
    have hs0' : 0 ≤ S0 := by omega
    clear hs0
    go_enter Try.func10, Try.ntmps10
    go_wp2_with fail
    refine (calls_v (szStringS_c _ _ _ _ _ G0_0.out L0.out Z0.out (by omega) (by omega)) (congrArg (Value.int .i64) HS0.out)).mono ?_
    rintro e ws0 ⟨rfl, hq⟩
    have K1 := Lib.hid (keep_of_below (hq.below _))
    have q1 := Lib.hid (q0.out.trans (Below.mono (hq.below _) q0.out.size))
    have G0_1 := Lib.hid (G0_0.out.keep K1.out)
    clear hq
    go_wp2_with fail
    refine (toStringS_c _ _ _ _ G0_1.out B0.out.1).mono ?_
    rintro e wc1 ⟨C1, d1, rfl, ho1, hb1⟩
    have K2 := Lib.hid (keep_of_below hb1)
    have q2 := Lib.hid (q1.out.trans (Below.mono hb1 q1.out.size))
    have G0_2 := Lib.hid (G0_1.out.keep K2.out)
    have R1 := Lib.hid ho1.strs
    clear ho1 hb1
    go_wp2_with fail
    refine (gives_v (SLackingSet_c _ _ _ _ R1.out B0.out.1) rfl).mono ?_
    rintro e wS ⟨rfl, hb⟩
    have K3 := Lib.hid (keep_of_below hb)
    have q3 := Lib.hid (q2.out.trans (Below.mono hb q2.out.size))
    have G0_3 := Lib.hid (G0_2.out.keep K3.out)
    have R1_3 := Lib.hid (R1.out.keep K3.out)
    clear hb
    go_wp2_with fail
    refine (toStringS_c _ _ _ _ G0_3.out B0.out.1).mono ?_
    rintro e wc2 ⟨C2, d2, rfl, ho2, hb2⟩
    have K4 := Lib.hid (keep_of_below hb2)
    have q4 := Lib.hid (q3.out.trans (Below.mono hb2 q3.out.size))
    have G0_4 := Lib.hid (G0_3.out.keep K4.out)
    have R1_4 := Lib.hid (R1_3.out.keep K4.out)
    have R2 := Lib.hid ho2.strs
    clear ho2 hb2
    go_wp2_with fail
    refine (gives_v (ILackingSet_c _ _ _ _ R2.out B0.out.1) rfl).mono ?_
    rintro e wI ⟨rfl, hb⟩
    have K5 := Lib.hid (keep_of_below hb)
    have q5 := Lib.hid (q4.out.trans (Below.mono hb q4.out.size))
    have G0_5 := Lib.hid (G0_4.out.keep K5.out)
    have R1_5 := Lib.hid (R1_4.out.keep K5.out)
    have R2_5 := Lib.hid (R2.out.keep K5.out)
    clear hb
    go_wp2_with fail
    refine (toStringS_c _ _ _ _ G0_5.out B0.out.1).mono ?_
    rintro e wc3 ⟨C3, d3, rfl, ho3, hb3⟩
    have K6 := Lib.hid (keep_of_below hb3)
    have q6 := Lib.hid (q5.out.trans (Below.mono hb3 q5.out.size))
    have G0_6 := Lib.hid (G0_5.out.keep K6.out)
    have R1_6 := Lib.hid (R1_5.out.keep K6.out)
    have R2_6 := Lib.hid (R2_5.out.keep K6.out)
    have R3 := Lib.hid ho3.strs
    clear ho3 hb3
    go_wp2_with fail
    refine (eqStringS_c _ _ _ _ _ _ R2_6.out R3.out B0.out.1).mono ?_
    rintro e we0 ⟨rfl, hq⟩
    have K7 := Lib.hid (keep_of_below (hq.below _))
    have q7 := Lib.hid (q6.out.trans (Below.mono (hq.below _) q6.out.size))
    have G0_7 := Lib.hid (G0_6.out.keep K7.out)
    have R1_7 := Lib.hid (R1_6.out.keep K7.out)
    have R2_7 := Lib.hid (R2_6.out.keep K7.out)
    have R3_7 := Lib.hid (R3.out.keep K7.out)
    clear hq
    go_wp2
    go_ret
    exact ⟨rfl, q7.out⟩

set_option maxRecDepth 100000 in
theorem fnExactLackingSet_lifted (os : Os) (started : os.Started) (H : Type) (enc : TypeId × Value → H) :
    ReturnsInHanded {} Try.checked os 10 .any (Rows.fnExactLackingSetSpec.pre6 enc Try.prog Try.f10 Rows.fnExactLackingSetRow.domain false) (Rows.fnExactLackingSetSpec.post enc Try.prog Try.f10 false true false false) := by
  refine returnsInHanded_of_change (C := Try.checked) own_knob started (by kernel_rfl) Try.func10
    (ChangeSpec.witness6 (enc := enc) (C := Try.checked) false ⟨#[], #[.slice none 0 0], []⟩ 8 (by kernel_rfl) (by kernel_rfl) (by kernel_rfl) (by kernel_rfl)) ?_
  intro W base args ds gs before hval0 hW hcnd _
  have hval : ∀ (j : Nat) t v, Try.f10.params[j]? = some t → args[j]? = some v → Value.okWide Try.prog W .any base t v := hval0
  have hW' := hW
  obtain ⟨p, q, hA0, hV, rfl, hfz, hnd⟩ := hW
  have hA : DataW.TrodAll enc Try.prog W 0 (fun _ => true) true Try.f10.params.toList args.toList ds p := hA0
  rw [Try.params10] at hA hval
  obtain ⟨v0, vs0, d0, ds0, p0, q0, hargs, rfl, rfl, h0, r0⟩ := trodAll_cons hA
  obtain ⟨rfl, rfl, rfl⟩ := trodAll_nil r0
  obtain rfl : args = #[v0] := by cases args; simp_all
  obtain ⟨rfl, rfl⟩ := trodVars_none hV
  obtain ⟨a0, len0, cap0, rfl⟩ := okWide_slice Try.underlying24 (hval 0 24 v0 rfl rfl)
  have k0 := h0
  have lt0 : ∀ x ∈ p0, x.block < W.heap.size := by obtain ⟨m, hm⟩ := k0; exact DataW.trod_lt m _ _ _ hm
  obtain ⟨xs0, rfl, g0, l0, m0, z0⟩ := open_strl Try.underlying24 Try.underlying9 (by kernel_rfl) h0
  clear hA0 hval0
  refine (fnExactLackingSet_walk W a0 cap0 xs0 g0 l0 m0 z0).mono fun e W' ⟨he, bel⟩ => ?_
  subst he
  exact ⟨_, rfl, _, _, _, [], _, [], hW', trodAll_mk1 (shut_bool Try.underlying4 _), (trodAll_cons_mk (Below.trod laid_out (by kernel_rfl) (of_decide_eq_true (by kernel_rfl)) k0 bel lt0) trodAll_mk0), rfl, bel.frame _, fun h => by cases h⟩

theorem fnExactLackingSet_holds : Rows.FnExactLackingSetSaid :=
  OpenClaim.holds_of_wide 10 Try.f10 rfl rfl rfl rfl rfl rfl rfl ⟨rfl, rfl, rfl, rfl, rfl⟩ rfl rfl rfl rfl rfl (by kernel_rfl) Try.func10 (by kernel_rfl)
    (of_decide_eq_true (by kernel_rfl)) (by unfold Func.isWrapper; first | (rw [if_pos (by decide +kernel)]; kernel_rfl) | (rw [if_neg (by decide +kernel)]; exact ⟨rfl, rfl⟩))
    (fun os started H enc _ => fnExactLackingSet_lifted os started H enc)
#print axioms fnExactLackingSet_holds

end Go.Proofs.Yteefbnadjjcpkaa
