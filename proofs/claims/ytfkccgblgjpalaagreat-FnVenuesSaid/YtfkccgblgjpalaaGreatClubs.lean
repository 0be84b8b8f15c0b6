
/- Contracts: whether a number is one of clubs (program and reference). -/
import Derived.Test.YtfkccgblgjpalaaGreatIn
namespace Go.Proofs.YtfkccgblgjpalaaGreat
open Go.RowKit

def isClubsB (n : Int) : Bool := inR n 2 10 && decide (n % 2 = 0)
theorem isClubs_true {n : Int} (h : isClubsB n = true) : 2 ≤ n ∧ n ≤ 10 ∧ n % 2 = 0 := by
  simp only [isClubsB, Bool.and_eq_true, decide_eq_true_eq] at h
  exact ⟨(inR_true h.1).1, (inR_true h.1).2, h.2⟩

set_option maxHeartbeats 400000 in
theorem isClubs_c (n : Int) (w : World) : Calls Tryz.prog 34 #[.int .i64 n] w (Quiet w (.bool (isClubsB n))) := by
  generalize hR : isClubsB n = R
  have HR := Lib.hid hR
  clear hR
  cases hb : inR n 2 10
  · have Hb := Lib.hid hb
    clear hb
    go_enter Tryz.func34, Tryz.ntmps34
    go_wp2_with (go_at_call 39; refine (calls_v (within_c _ _ _ _) (congrArg Value.bool Hb.out)).mono ?_; rintro e w1 ⟨rfl, hq⟩)
    go_ret
    exact ⟨ret_bool (by rw [← HR.out]; simp [isClubsB, Hb.out]), hq⟩
  · have hn := inR_true hb
    obtain ⟨h1, h2⟩ := hn
    have Hb := Lib.hid hb
    clear hb
    go_enter Tryz.func34, Tryz.ntmps34
    go_wp2_with (go_at_call 39; refine (calls_v (within_c _ _ _ _) (congrArg Value.bool Hb.out)).mono ?_; rintro e w1 ⟨rfl, hq⟩)
    go_ret
    exact ⟨ret_bool (by rw [← HR.out]; simp only [isClubsB, Hb.out, Bool.true_and]; rfl), hq⟩

set_option maxHeartbeats 400000 in
theorem l16Size_c (n : Int) (w : World) : Calls Tryz.prog 36 #[.int .i64 n] w (Quiet w (.bool (isClubsB n))) := by
  generalize hR : isClubsB n = R
  have HR := Lib.hid hR
  clear hR
  cases hb : inR n 2 10
  · have Hb := Lib.hid hb
    clear hb
    go_enter Tryz.func36, Tryz.ntmps36
    go_wp2_with (go_at_call 37; refine (calls_v (l01In_c _ _ _ _) (congrArg Value.bool Hb.out)).mono ?_; rintro e w1 ⟨rfl, hq⟩)
    go_ret
    exact ⟨ret_bool (by rw [← HR.out]; simp [isClubsB, Hb.out]), hq⟩
  · have hn := inR_true hb
    obtain ⟨h1, h2⟩ := hn
    have Hb := Lib.hid hb
    clear hb
    go_enter Tryz.func36, Tryz.ntmps36
    go_wp2_with (go_at_call 37; refine (calls_v (l01In_c _ _ _ _) (congrArg Value.bool Hb.out)).mono ?_; rintro e w1 ⟨rfl, hq⟩)
    go_ret
    exact ⟨ret_bool (by rw [← HR.out]; simp only [isClubsB, Hb.out, Bool.true_and]; rfl), hq⟩

end Go.Proofs.YtfkccgblgjpalaaGreat
