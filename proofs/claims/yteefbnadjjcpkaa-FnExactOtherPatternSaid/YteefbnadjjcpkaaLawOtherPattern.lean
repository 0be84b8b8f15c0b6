/- For all strings the program's OtherPattern returns what the reference's returns; the law returns true.
   Conditions: none. -/
import Derived.Test.YteefbnadjjcpkaaOther
import Derived.Test.YteefbnadjjcpkaaOpen
namespace Go.Proofs.Yteefbnadjjcpkaa
open Go.ChangeShapes Go.WideShapes Go.ChangeAt Go.RowKit
open Go.ChangeMaps (open_string shut_string)
set_option linter.unusedVariables false

set_option maxHeartbeats 2000000 in
theorem fnExactOtherPattern_walk (w : World) (a0 : ByteArray) (w0 : a0.size ≤ maxLen) :
    Calls Try.prog 11 #[.string a0] w fun e w' => e = .returned (.bool true) ∧ Below w.heap.size w w' := by
  have q0 : Hid (Below w.heap.size w w) := Lib.hid (Below.refl _ _)
  by_cases hb0 : 1048576 < a0.size
  · go_enter Try.func11, Try.ntmps11
    go_wp2
    go_ret
    exact ⟨rfl, q0.out⟩
  · have hb0' : a0.size ≤ 1048576 := by omega
    go_enter Try.func11, Try.ntmps11
    go_wp2_with fail
    refine (calls_v (sOtherPattern_c _ _) rfl).mono ?_
    rintro e wS ⟨rfl, hq⟩
    have K1 := Lib.hid (keep_of_below (hq.below _))
    have q1 := Lib.hid (q0.out.trans (Below.mono (hq.below _) q0.out.size))
    clear hq
    go_wp2_with fail
    refine (gives_v (iOtherPattern_c _ _) rfl).mono ?_
    rintro e wI ⟨rfl, hb⟩
    have K2 := Lib.hid (keep_of_below hb)
    have q2 := Lib.hid (q1.out.trans (Below.mono hb q1.out.size))
    clear hb
    go_wp2
    go_ret
    exact ⟨rfl, q2.out⟩

set_option maxRecDepth 100000 in
theorem fnExactOtherPattern_lifted (os : Os) (started : os.Started) (H : Type) (enc : TypeId × Value → H) :
    ReturnsInHanded {} Try.checked os 11 .any (Rows.fnExactOtherPatternSpec.pre6 enc Try.prog Try.f11 Rows.fnExactOtherPatternRow.domain false) (Rows.fnExactOtherPatternSpec.post enc Try.prog Try.f11 false true false false) := by
  refine returnsInHanded_of_change (C := Try.checked) own_knob started (by kernel_rfl) Try.func11
    (ChangeSpec.witness6 (enc := enc) (C := Try.checked) false ⟨#[], #[.string ByteArray.empty], []⟩ 8 (by kernel_rfl) (by kernel_rfl) (by kernel_rfl) (by kernel_rfl)) ?_
  intro W base args ds gs before hval0 hW hcnd _
  have hval : ∀ (j : Nat) t v, Try.f11.params[j]? = some t → args[j]? = some v → Value.okWide Try.prog W .any base t v := hval0
  have hW' := hW
  obtain ⟨p, q, hA0, hV, rfl, hfz, hnd⟩ := hW
  have hA : DataW.TrodAll enc Try.prog W 0 (fun _ => true) true Try.f11.params.toList args.toList ds p := hA0
  rw [Try.params11] at hA hval
  obtain ⟨v0, vs0, d0, ds0, p0, q0, hargs, rfl, rfl, h0, r0⟩ := trodAll_cons hA
  obtain ⟨rfl, rfl, rfl⟩ := trodAll_nil r0
  obtain rfl : args = #[v0] := by cases args; simp_all
  obtain ⟨rfl, rfl⟩ := trodVars_none hV
  obtain ⟨a0, rfl, rfl, rfl, w0⟩ := open_string Try.underlying9 (hval 0 9 v0 rfl rfl) h0
  clear hA0 hval0
  refine (fnExactOtherPattern_walk W a0 w0).mono fun e W' ⟨he, bel⟩ => ?_
  subst he
  exact ⟨_, rfl, _, _, _, [], _, [], hW', trodAll_mk1 (shut_bool Try.underlying4 _), (trodAll_cons_mk (shut_string Try.underlying9 w0) trodAll_mk0), rfl, bel.frame _, fun h => by cases h⟩

theorem fnExactOtherPattern_holds : Rows.FnExactOtherPatternSaid :=
  OpenClaim.holds_of_wide 11 Try.f11 rfl rfl rfl rfl rfl rfl rfl ⟨rfl, rfl, rfl, rfl, rfl⟩ rfl rfl rfl rfl rfl (by kernel_rfl) Try.func11 (by kernel_rfl)
    (of_decide_eq_true (by kernel_rfl)) (by unfold Func.isWrapper; first | (rw [if_pos (by decide +kernel)]; kernel_rfl) | (rw [if_neg (by decide +kernel)]; exact ⟨rfl, rfl⟩))
    (fun os started H enc _ => fnExactOtherPattern_lifted os started H enc)
#print axioms fnExactOtherPattern_holds

end Go.Proofs.Yteefbnadjjcpkaa
