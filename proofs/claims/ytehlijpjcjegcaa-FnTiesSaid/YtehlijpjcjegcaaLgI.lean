/- Contracts: the points of a club's result (program), the points of all clubs (program and reference). -/
import Derived.Test.YtehlijpjcjegcaaLgH
namespace Go.Proofs.Ytehlijpjcjegcaa
set_option linter.unusedSimpArgs false
set_option linter.unusedVariables false
open Go.RowKit

def ownG (h g t k : Int) : Int := if k = h then g else t
def othG (h g t k : Int) : Int := if k = h then t else g
set_option maxHeartbeats 1000000 in
theorem goalsFor_c (h a g t k : Int) (w : World) : Calls Try.prog 83 #[.agg #[.int .i64 h, .int .i64 a, .int .i64 g, .int .i64 t], .int .i64 k] w (Gives w (.tuple #[.int .i64 (ownG h g t k), .int .i64 (othG h g t k)])) := by
  unfold ownG othG
  obtain ⟨b0, b1, b2, b3⟩ := box4 w (.int .i64 h) (.int .i64 a) (.int .i64 g) (.int .i64 t) 47
  by_cases h1 : k = h
  · simp only [if_pos h1]
    have e1 : (k == h) = true := by simp [h1]
    have H1 := Lib.hid h1
    clear h1
    go_enter Try.func83, Try.ntmps83
    go_wp2
    go_quiet (fail)
    go_wp2
    go_ret2
    exact ⟨rfl, ((Below.refl _ _).alloc (Nat.le_refl _) _).trans (below_drewN _ _ _)⟩
  · simp only [if_neg h1]
    have e1 : (k == h) = false := by simp [h1]
    have H1 := Lib.hid h1
    clear h1
    go_enter Try.func83, Try.ntmps83
    go_wp2
    go_quiet (fail)
    go_wp2
    go_ret2
    exact ⟨rfl, ((Below.refl _ _).alloc (Nat.le_refl _) _).trans (below_drewN _ _ _)⟩
def outF (h g t k : Int) : Int := 1 + cmpI (ownG h g t k) (othG h g t k)
theorem cmpI_bd (x y : Int) : -1 ≤ cmpI x y ∧ cmpI x y ≤ 1 := by unfold cmpI; split <;> (try split) <;> omega
set_option maxHeartbeats 1000000 in
theorem outcome_c (h a g t k : Int) (w : World) : Calls Try.prog 57 #[.agg #[.int .i64 h, .int .i64 a, .int .i64 g, .int .i64 t], .int .i64 k] w (Gives w (.int .i64 (outF h g t k))) := by
  unfold outF
  obtain ⟨x, hx⟩ : ∃ x, ownG h g t k = x := ⟨_, rfl⟩
  obtain ⟨y, hy⟩ : ∃ y, othG h g t k = y := ⟨_, rfl⟩
  have hgf := fun W => goalsFor_c h a g t k W
  have hb := cmpI_bd x y
  obtain ⟨z, hz⟩ : ∃ z, cmpI x y = z := ⟨_, rfl⟩
  have hcm := fun W => compare_c x y W
  simp only [hx, hy] at hgf ⊢
  simp only [hz] at hcm hb ⊢
  have hz0 := hb.1
  have hz1 := hb.2
  clear hb
  obtain ⟨b0, b1, b2, b3⟩ := box4 w (.int .i64 h) (.int .i64 a) (.int .i64 g) (.int .i64 t) 47
  have hbw : Below w.heap.size w (w.alloc (.cells #[.int .i64 h, .int .i64 a, .int .i64 g, .int .i64 t] 47)) := (Below.refl _ _).alloc (Nat.le_refl _) _
  have Hgf := Lib.hid hgf
  have Hcm := Lib.hid hcm
  have Hx := Lib.hid hx
  have Hy := Lib.hid hy
  have Hz := Lib.hid hz
  have Hbw := Lib.hid hbw
  clear hgf hcm hx hy hz hbw
  go_enter Try.func57, Try.ntmps57
  go_wp2_with fail
  refine (Hgf.out _).mono ?_
  rintro e w1 ⟨rfl, hb1⟩
  have Hb1 := Lib.hid (Hbw.out.trans (hb1.mono Hbw.out.size))
  clear hb1 b0 b1 b2 b3
  go_wp2_with fail
  refine (Hcm.out _).mono ?_
  rintro e w2 ⟨rfl, hq⟩
  go_wp2
  go_ret
  exact ⟨rfl, Hb1.out.trans (hq.below _)⟩
theorem idx3_0 (a b c : Int) (w : World) : (Instr.index 70 (.agg #[.int .i64 a, .int .i64 b, .int .i64 c]) (.int .i64 0)).run Try.prog w = .ok (.int .i64 a) w := by rfl
theorem idx3_1 (a b c : Int) (w : World) : (Instr.index 70 (.agg #[.int .i64 a, .int .i64 b, .int .i64 c]) (.int .i64 1)).run Try.prog w = .ok (.int .i64 b) w := by rfl
theorem idx3_2 (a b c : Int) (w : World) : (Instr.index 70 (.agg #[.int .i64 a, .int .i64 b, .int .i64 c]) (.int .i64 2)).run Try.prog w = .ok (.int .i64 c) w := by rfl
def pts3 (o : Int) : Int := if o = 2 then 3 else if o = 1 then 1 else 0
set_option maxHeartbeats 1000000 in
theorem pointsFor_c (h a g t k : Int) (w : World) : Calls Try.prog 52 #[.agg #[.int .i64 h, .int .i64 a, .int .i64 g, .int .i64 t], .int .i64 k] w (Gives w (.int .i64 (pts3 (outF h g t k)))) := by
  have hgf := fun W => outcome_c h a g t k W
  have hb := cmpI_bd (ownG h g t k) (othG h g t k)
  obtain ⟨o, ho⟩ : ∃ o, outF h g t k = o := ⟨_, rfl⟩
  have ho0 : o = 0 ∨ o = 1 ∨ o = 2 := by rw [← ho, outF]; omega
  simp only [ho] at hgf ⊢
  clear hb
  have hbw : Below w.heap.size w (w.alloc (.cells #[.int .i64 h, .int .i64 a, .int .i64 g, .int .i64 t] 47)) := (Below.refl _ _).alloc (Nat.le_refl _) _
  have Ho := Lib.hid ho
  have Hbw := Lib.hid hbw
  have Hgf := Lib.hid hgf
  clear ho hbw hgf
  rcases ho0 with rfl | rfl | rfl
  all_goals
    have i0 := fun W => idx3_0 0 1 3 W
    have i1 := fun W => idx3_1 0 1 3 W
    have i2 := fun W => idx3_2 0 1 3 W
    go_enter Try.func52, Try.ntmps52
    go_wp2_with fail
    refine (Hgf.out _).mono ?_
    rintro e w1 ⟨rfl, hb1⟩
    go_wp2
    go_ret
    exact ⟨rfl, Hbw.out.trans (hb1.mono Hbw.out.size)⟩
end Go.Proofs.Ytehlijpjcjegcaa
