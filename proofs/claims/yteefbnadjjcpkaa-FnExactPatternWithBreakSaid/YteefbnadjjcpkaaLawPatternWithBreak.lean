/- For all n, r and first letters the program's PatternWithBreak returns what the reference's returns; the law returns true.
   Conditions: none. -/
import Derived.Test.YteefbnadjjcpkaaPwb
import Derived.Test.YteefbnadjjcpkaaOpen
namespace Go.Proofs.Yteefbnadjjcpkaa
open Go.ChangeShapes Go.WideShapes Go.ChangeAt Go.RowKit
open Go.ChangeMaps (open_string shut_string)
set_option linter.unusedVariables false

set_option maxHeartbeats 2000000 in
theorem fnExactPatternWithBreak_walk (w : World) (a0 : Int) (w0 : I64 a0) (a1 : Int) (w1 : I64 a1) (a2 : ByteArray) (w2 : a2.size ≤ maxLen) :
    Calls Try.prog 12 #[.int .i64 a0, .int .i64 a1, .string a2] w fun e w' => e = .returned (.bool true) ∧ Below w.heap.size w w' := by
  by_cases hb0 : 1048576 < a2.size
  · go_enter Try.func12, Try.ntmps12
    go_wp2
    go_ret
    exact ⟨rfl, Below.refl _ _⟩
  · have hb0' : a2.size ≤ 1048576 := by omega
    have hs := fun W => sPwb_c a0 a1 a2 W
    have hi := fun W => iPwb_c a0 a1 a2 W
    obtain ⟨⟨t, b⟩, hR⟩ : ∃ R, patWB a0 a1 a2 = R := ⟨_, rfl⟩
    rw [hR] at hs hi
    have ht := str_eq0 (a := t) rfl
    have hbb : (b != b) = false := by simp
    have Hs := Lib.hid hs
    have Hi := Lib.hid hi
    have HR := Lib.hid hR
    clear hs hi hR
    go_enter Try.func12, Try.ntmps12
    go_wp2_with fail
    refine (Hs.out _).mono ?_
    rintro e wS ⟨rfl, hq⟩
    have Hq := Lib.hid (hq.below w.heap.size)
    clear hq
    go_wp2_with fail
    refine (Hi.out _).mono ?_
    rintro e wI ⟨rfl, hb⟩
    have Hb := Lib.hid (Hq.out.trans (hb.mono Hq.out.size))
    clear hb
    go_wp2
    go_ret
    exact ⟨rfl, Hb.out⟩

set_option maxRecDepth 100000 in
theorem fnExactPatternWithBreak_lifted (os : Os) (started : os.Started) (H : Type) (enc : TypeId × Value → H) :
    ReturnsInHanded {} Try.checked os 12 .any (Rows.fnExactPatternWithBreakSpec.pre6 enc Try.prog Try.f12 Rows.fnExactPatternWithBreakRow.domain false) (Rows.fnExactPatternWithBreakSpec.post enc Try.prog Try.f12 false true false false) := by
  refine returnsInHanded_of_change (C := Try.checked) own_knob started (by kernel_rfl) Try.func12
    (ChangeSpec.witness6 (enc := enc) (C := Try.checked) false ⟨#[], #[.int .i64 0, .int .i64 0, .string ByteArray.empty], []⟩ 8 (by kernel_rfl) (by kernel_rfl) (by kernel_rfl) (by kernel_rfl)) ?_
  intro W base args ds gs before hval0 hW hcnd _
  have hval : ∀ (j : Nat) t v, Try.f12.params[j]? = some t → args[j]? = some v → Value.okWide Try.prog W .any base t v := hval0
  have hW' := hW
  obtain ⟨p, q, hA0, hV, rfl, hfz, hnd⟩ := hW
  have hA : DataW.TrodAll enc Try.prog W 0 (fun _ => true) true Try.f12.params.toList args.toList ds p := hA0
  rw [Try.params12] at hA hval
  obtain ⟨v0, vs0, d0, ds0, p0, q0, hargs, rfl, rfl, h0, r0⟩ := trodAll_cons hA
  obtain ⟨v1, vs1, d1, ds1, p1, q1, rfl, rfl, rfl, h1, r1⟩ := trodAll_cons r0
  obtain ⟨v2, vs2, d2, ds2, p2, q2, rfl, rfl, rfl, h2, r2⟩ := trodAll_cons r1
  obtain ⟨rfl, rfl, rfl⟩ := trodAll_nil r2
  obtain rfl : args = #[v0, v1, v2] := by cases args; simp_all
  obtain ⟨rfl, rfl⟩ := trodVars_none hV
  obtain ⟨a0, rfl, rfl, rfl, w0⟩ := open_int Try.underlying3 (hval 0 3 v0 rfl rfl) h0
  obtain ⟨a1, rfl, rfl, rfl, w1⟩ := open_int Try.underlying3 (hval 1 3 v1 rfl rfl) h1
  obtain ⟨a2, rfl, rfl, rfl, w2⟩ := open_string Try.underlying9 (hval 2 9 v2 rfl rfl) h2
  clear hA0 hval0
  refine (fnExactPatternWithBreak_walk W a0 (i64_of_wf w0) a1 (i64_of_wf w1) a2 w2).mono fun e W' ⟨he, bel⟩ => ?_
  subst he
  exact ⟨_, rfl, _, _, _, [], _, [], hW', trodAll_mk1 (shut_bool Try.underlying4 _), (trodAll_cons_mk (shut_int Try.underlying3 w0) (trodAll_cons_mk (shut_int Try.underlying3 w1) (trodAll_cons_mk (shut_string Try.underlying9 w2) trodAll_mk0))), rfl, bel.frame _, fun h => by cases h⟩

theorem fnExactPatternWithBreak_holds : Rows.FnExactPatternWithBreakSaid :=
  OpenClaim.holds_of_wide 12 Try.f12 rfl rfl rfl rfl rfl rfl rfl ⟨rfl, rfl, rfl, rfl, rfl⟩ rfl rfl rfl rfl rfl (by kernel_rfl) Try.func12 (by kernel_rfl)
    (of_decide_eq_true (by kernel_rfl)) (by unfold Func.isWrapper; first | (rw [if_pos (by decide +kernel)]; kernel_rfl) | (rw [if_neg (by decide +kernel)]; exact ⟨rfl, rfl⟩))
    (fun os started H enc _ => fnExactPatternWithBreak_lifted os started H enc)
#print axioms fnExactPatternWithBreak_holds

end Go.Proofs.Yteefbnadjjcpkaa
