/- For every n the program's FieldPlan returns what the reference's returns, in new memory each time; the law returns true.
   Conditions: none. -/
import Derived.Test.YtblafjnhghncmaaOpen
import Derived.Test.YtblafjnhghncmaaField
namespace Go.Proofs.Ytblafjnhghncmaa
theorem isXor_le2 {n : Int} (h : isXor n = true) : n.toNat = 2 ∨ n.toNat = 4 ∨ n.toNat = 8 := by
  simp only [isXor, Bool.or_eq_true, decide_eq_true_eq] at h; omega
theorem fieldOf_len (n : Int) : (fieldOf n).length ≤ 1048576 := by
  unfold fieldOf
  split
  · rename_i h
    have := isXor_le2 h
    rw [fieldPlan_length this]; omega
  · simp
theorem fieldOf_tot (n : Int) : total (fieldOf n) ≤ 4194304 := by
  unfold fieldOf
  split
  · rename_i h
    have h2 := isXor_le2 h
    have := total_bd (b := 8) (fieldPlan n.toNat) (fun xs hx => by
      obtain ⟨i, hi, rfl⟩ := List.mem_map.1 hx
      have := fieldIdx_lt h2 i hi
      rw [getD_of (xor_at this), xorRound_length]; omega)
    rw [fieldPlan_length h2] at this
    omega
  · simp [total]
end Go.Proofs.Ytblafjnhghncmaa
namespace Go.Proofs.Ytblafjnhghncmaa
open Go.ChangeShapes Go.WideShapes Go.ChangeAt Go.RowKit
open Go.ChangeMaps (open_string shut_string)
set_option linter.unusedVariables false

set_option maxHeartbeats 4000000 in
theorem fnExactFieldPlan_walk (w : World) (a0 : Int) (w0 : I64 a0) :
    Calls Try.prog 6 #[.int .i64 a0] w fun e w' => e = .returned (.bool true) ∧ Below w.heap.size w w' := by
  have q0 : Hid (Below w.heap.size w w) := Lib.hid (Below.refl _ _)
  have W0 := Lib.hid w0
  clear w0
  have vlen : (fieldOf a0).length ≤ 1048576 := fieldOf_len _
  have vtot : total (fieldOf a0) ≤ 4194304 := fieldOf_tot _
  generalize hV : fieldOf a0 = V at vlen vtot
  have HV := Lib.hid hV
  clear hV
  generalize hb2 : isXor a0 = b2
  have HB := Lib.hid hb2
  clear hb2
  go_enter Try.func6, Try.ntmps6
  go_wp2_with fail
  refine (givesIIb_v (sFieldPlan_c _ _ W0.out) HV.out HB.out).mono ?_
  rintro e wr1 ⟨C1, d1, rfl, ho1, hb1⟩
  have s1 : w.heap.size ≤ wr1.heap.size := Below.size hb1
  have q1 := Lib.hid (q0.out.trans (Below.mono hb1 q0.out.size))
  have O1 := Lib.hid ho1
  clear ho1 hb1
  go_wp2_with fail
  refine (givesIIb_v (iFieldPlan_c _ _ W0.out) HV.out HB.out).mono ?_
  rintro e wr2 ⟨C2, d2, rfl, ho2, hb2⟩
  have s2 : wr1.heap.size ≤ wr2.heap.size := Below.size hb2
  have q2 := Lib.hid (q1.out.trans (Below.mono hb2 q1.out.size))
  have O1_2 := Lib.hid (O1.out.below (Below.mono hb2 (by omega : wr1.heap.size ≤ wr1.heap.size)))
  have O2 := Lib.hid ho2
  clear ho2 hb2
  go_wp2_with fail
  refine (calls_v (eqIntSS_c _ _ _ _ _ _ _ (O2.out.rows) (O1_2.out.rows) (by unfold maxLen; omega)) (congrArg Value.bool (decide_eq_true rfl))).mono ?_
  rintro e we3 ⟨rfl, hq⟩
  have s3 : wr2.heap.size ≤ we3.heap.size := Below.size (hq.below wr2.heap.size)
  have q3 := Lib.hid (q2.out.trans (Below.mono (hq.below wr2.heap.size) q2.out.size))
  have O1_3 := Lib.hid (O1_2.out.below (Below.mono (hq.below wr2.heap.size) (by omega : wr1.heap.size ≤ wr2.heap.size)))
  have O2_3 := Lib.hid (O2.out.below (Below.mono (hq.below wr2.heap.size) (by omega : wr2.heap.size ≤ wr2.heap.size)))
  clear hq
  go_wp2_with fail
  refine (markIntSS_c _ _ _ _ _ _ _ O2_3.out (by omega) (by omega) (by omega) (by omega) (by omega)).mono ?_
  rintro e wm4 ⟨rfl, ho4, hy4⟩
  have s4 : we3.heap.size ≤ wm4.heap.size := Only.size hy4
  have q4 := Lib.hid (q3.out.trans (below_of_only hy4 (by omega) q3.out.size))
  have O1_4 := Lib.hid (O1_3.out.only hy4 (by omega) (by omega))
  have O2m := Lib.hid ho4
  clear ho4 hy4
  go_wp2_with fail
  refine (heldIntSS_c _ _ _ _ _ (O2m.out.rows) (by omega) (by omega) (by omega) (by omega)).mono ?_
  rintro e wh5 ⟨rfl, hq⟩
  have s5 : wm4.heap.size ≤ wh5.heap.size := Below.size (hq.below wm4.heap.size)
  have q5 := Lib.hid (q4.out.trans (Below.mono (hq.below wm4.heap.size) q4.out.size))
  have O1_5 := Lib.hid (O1_4.out.below (Below.mono (hq.below wm4.heap.size) (by omega : wr1.heap.size ≤ wm4.heap.size)))
  have O2m_5 := Lib.hid (O2m.out.below (Below.mono (hq.below wm4.heap.size) (by omega : wr2.heap.size ≤ wm4.heap.size)))
  clear hq
  go_wp2_with fail
  refine (givesIIb_v (iFieldPlan_c _ _ W0.out) HV.out HB.out).mono ?_
  rintro e wr6 ⟨C6, d6, rfl, ho6, hb6⟩
  have s6 : wh5.heap.size ≤ wr6.heap.size := Below.size hb6
  have q6 := Lib.hid (q5.out.trans (Below.mono hb6 q5.out.size))
  have O1_6 := Lib.hid (O1_5.out.below (Below.mono hb6 (by omega : wr1.heap.size ≤ wh5.heap.size)))
  have O2m_6 := Lib.hid (O2m_5.out.below (Below.mono hb6 (by omega : wr2.heap.size ≤ wh5.heap.size)))
  have O6 := Lib.hid ho6
  clear ho6 hb6
  go_wp2_with fail
  refine (calls_v (eqIntSS_c _ _ _ _ _ _ _ (O6.out.rows) (O1_6.out.rows) (by unfold maxLen; omega)) (congrArg Value.bool (decide_eq_true rfl))).mono ?_
  rintro e we7 ⟨rfl, hq⟩
  have s7 : wr6.heap.size ≤ we7.heap.size := Below.size (hq.below wr6.heap.size)
  have q7 := Lib.hid (q6.out.trans (Below.mono (hq.below wr6.heap.size) q6.out.size))
  have O1_7 := Lib.hid (O1_6.out.below (Below.mono (hq.below wr6.heap.size) (by omega : wr1.heap.size ≤ wr6.heap.size)))
  have O2m_7 := Lib.hid (O2m_6.out.below (Below.mono (hq.below wr6.heap.size) (by omega : wr2.heap.size ≤ wr6.heap.size)))
  have O6_7 := Lib.hid (O6.out.below (Below.mono (hq.below wr6.heap.size) (by omega : wr6.heap.size ≤ wr6.heap.size)))
  clear hq
  go_wp2_with fail
  refine (heldIntSS_c _ _ _ _ _ (O2m_7.out.rows) (by omega) (by omega) (by omega) (by omega)).mono ?_
  rintro e wh8 ⟨rfl, hq⟩
  have s8 : we7.heap.size ≤ wh8.heap.size := Below.size (hq.below we7.heap.size)
  have q8 := Lib.hid (q7.out.trans (Below.mono (hq.below we7.heap.size) q7.out.size))
  have O1_8 := Lib.hid (O1_7.out.below (Below.mono (hq.below we7.heap.size) (by omega : wr1.heap.size ≤ we7.heap.size)))
  have O2m_8 := Lib.hid (O2m_7.out.below (Below.mono (hq.below we7.heap.size) (by omega : wr2.heap.size ≤ we7.heap.size)))
  have O6_8 := Lib.hid (O6_7.out.below (Below.mono (hq.below we7.heap.size) (by omega : wr6.heap.size ≤ we7.heap.size)))
  clear hq
  go_wp2
  go_ret
  exact ⟨rfl, q8.out⟩

set_option maxRecDepth 100000 in
theorem fnExactFieldPlan_lifted (os : Os) (started : os.Started) (H : Type) (enc : TypeId × Value → H) :
    ReturnsInHanded {} Try.checked os 6 .any (Rows.fnExactFieldPlanSpec.pre6 enc Try.prog Try.f6 Rows.fnExactFieldPlanRow.domain false) (Rows.fnExactFieldPlanSpec.post enc Try.prog Try.f6 false true false false) := by
  refine returnsInHanded_of_change (C := Try.checked) own_knob started (by kernel_rfl) Try.func6
    (ChangeSpec.witness6 (enc := enc) (C := Try.checked) false ⟨#[], #[.int .i64 0], []⟩ 8 (by kernel_rfl) (by kernel_rfl) (by kernel_rfl) (by kernel_rfl)) ?_
  intro W base args ds gs before hval0 hW hcnd _
  have hval : ∀ (j : Nat) t v, Try.f6.params[j]? = some t → args[j]? = some v → Value.okWide Try.prog W .any base t v := hval0
  have hW' := hW
  obtain ⟨p, q, hA0, hV, rfl, hfz, hnd⟩ := hW
  have hA : DataW.TrodAll enc Try.prog W 0 (fun _ => true) true Try.f6.params.toList args.toList ds p := hA0
  rw [Try.params6] at hA hval
  obtain ⟨v0, vs0, d0, ds0, p0, q0, hargs, rfl, rfl, h0, r0⟩ := trodAll_cons hA
  obtain ⟨rfl, rfl, rfl⟩ := trodAll_nil r0
  obtain rfl : args = #[v0] := by cases args; simp_all
  obtain ⟨rfl, rfl⟩ := trodVars_none hV
  obtain ⟨a0, rfl, rfl, rfl, w0⟩ := open_int Try.underlying3 (hval 0 3 v0 rfl rfl) h0
  clear hA0 hval0
  refine (fnExactFieldPlan_walk W a0 (i64_of_wf w0)).mono fun e W' ⟨he, bel⟩ => ?_
  subst he
  exact ⟨_, rfl, _, _, _, [], _, [], hW', trodAll_mk1 (shut_bool Try.underlying4 _), (trodAll_cons_mk (shut_int Try.underlying3 w0) trodAll_mk0), rfl, bel.frame _, fun h => by cases h⟩

theorem fnExactFieldPlan_holds : Rows.FnExactFieldPlanSaid :=
  OpenClaim.holds_of_wide 6 Try.f6 rfl rfl rfl rfl rfl rfl rfl ⟨rfl, rfl, rfl, rfl, rfl⟩ rfl rfl rfl rfl rfl (by kernel_rfl) Try.func6 (by kernel_rfl)
    (of_decide_eq_true (by kernel_rfl)) (by unfold Func.isWrapper; first | (rw [if_pos (by decide +kernel)]; kernel_rfl) | (rw [if_neg (by decide +kernel)]; exact ⟨rfl, rfl⟩))
    (fun os started H enc _ => fnExactFieldPlan_lifted os started H enc)
#print axioms fnExactFieldPlan_holds

end Go.Proofs.Ytblafjnhghncmaa
