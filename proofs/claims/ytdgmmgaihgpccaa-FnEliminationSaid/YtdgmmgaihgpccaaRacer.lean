/- Contracts: a race and a club of it; how many games it has left, and how many wins it can have (program and reference). -/
import Derived.Test.YtdgmmgaihgpccaaLeft
namespace Go.Proofs.Ytdgmmgaihgpccaa
open Go.RowKit

def racer (wins : List Int) (left : List (List Int)) (k : Int) : Bool := raceOk wins left && inR k 0 ((wins.length : Int) - 1)
theorem racer_race {wins : List Int} {left : List (List Int)} {k : Int} (h : racer wins left k = true) : Race wins left := by
  simp only [racer, Bool.and_eq_true] at h
  exact race_of h.1
theorem racer_club {wins : List Int} {left : List (List Int)} {k : Int} (h : racer wins left k = true) : ∃ c : Nat, k = (c : Int) ∧ c < wins.length := by
  simp only [racer, Bool.and_eq_true] at h
  have := inR_true h.2
  exact ⟨k.toNat, by omega, by omega⟩
theorem below_dr {B : Nat} {a b c : World} (h : Below B a b) (k : Dr b c) : Below B a c := h.trans (k.below _)
theorem sRaceOkG_c (A B : Option Addr) (c d : Nat) (wins : List Int) (left : List (List Int)) (w : World) (ha : Ints w A wins) (hb : Rows w B left) (hm : wins.length ≤ 1048576) (hm2 : left.length ≤ 1048576) (hcap : left.length ≤ d) :
    Calls Try.prog 14 #[.slice A wins.length c, .slice B left.length d] w (Gives w (.bool (raceOk wins left))) :=
  (sRaceOk_c A B c d wins left w ha hb hm hm2 hcap).mono fun _ _ h => h.gives

set_option maxHeartbeats 1000000 in
theorem isRacer_c (A B : Option Addr) (c d : Nat) (wins : List Int) (left : List (List Int)) (k : Int) (w : World) (ha : Ints w A wins) (hb : Rows w B left) (hm : wins.length ≤ 1048576) (hm2 : left.length ≤ 1048576) (hcap : left.length ≤ d) :
    Calls Try.prog 50 #[.slice A wins.length c, .slice B left.length d, .int .i64 k] w (Gives w (.bool (racer wins left k))) := by
  generalize hR : racer wins left k = R
  have HR := Lib.hid hR
  clear hR
  have wn : IntKind.i64.wrap ((wins.length : Int) - 1) = (wins.length : Int) - 1 := IntWalk.i64_in _ (by omega)
  have Ha := Lib.hid ha
  have Hb := Lib.hid hb
  clear ha hb
  cases h1 : raceOk wins left
  · have H1 := Lib.hid h1
    clear h1
    go_enter Try.func50, Try.ntmps50
    go_wp2_with fail
    refine (gives_v (iRaceOk_c _ _ _ _ _ _ _ Ha.out Hb.out hm hm2 hcap) (congrArg Value.bool H1.out)).mono ?_
    rintro e w1 ⟨rfl, hb1⟩
    go_wp2
    go_ret
    exact ⟨ret_bool (by rw [← HR.out]; simp [racer, H1.out]), hb1⟩
  · cases h2 : inR k 0 ((wins.length : Int) - 1)
    · have H1 := Lib.hid h1
      have H2 := Lib.hid h2
      clear h1 h2
      go_enter Try.func50, Try.ntmps50
      go_wp2_with fail
      refine (gives_v (iRaceOk_c _ _ _ _ _ _ _ Ha.out Hb.out hm hm2 hcap) (congrArg Value.bool H1.out)).mono ?_
      rintro e w1 ⟨rfl, hb1⟩
      have Hb1 := Lib.hid hb1
      clear hb1
      go_wp2_with fail
      refine (calls_v (within_c _ _ _ _) (congrArg Value.bool H2.out)).mono ?_
      rintro e w2 ⟨rfl, hq⟩
      go_wp2
      go_ret
      exact ⟨ret_bool (by rw [← HR.out]; simp [racer, H1.out, H2.out]), below_dr Hb1.out hq⟩
    · have H1 := Lib.hid h1
      have H2 := Lib.hid h2
      clear h1 h2
      go_enter Try.func50, Try.ntmps50
      go_wp2_with fail
      refine (gives_v (iRaceOk_c _ _ _ _ _ _ _ Ha.out Hb.out hm hm2 hcap) (congrArg Value.bool H1.out)).mono ?_
      rintro e w1 ⟨rfl, hb1⟩
      have Hb1 := Lib.hid hb1
      clear hb1
      go_wp2_with fail
      refine (calls_v (within_c _ _ _ _) (congrArg Value.bool H2.out)).mono ?_
      rintro e w2 ⟨rfl, hq⟩
      go_wp2
      go_ret
      exact ⟨ret_bool (by rw [← HR.out]; simp [racer, H1.out, H2.out]), below_dr Hb1.out hq⟩

set_option maxHeartbeats 1000000 in
theorem l14Ok_c (A B : Option Addr) (c d : Nat) (wins : List Int) (left : List (List Int)) (k : Int) (w : World) (ha : Ints w A wins) (hb : Rows w B left) (hm : wins.length ≤ 1048576) (hm2 : left.length ≤ 1048576) (hcap : left.length ≤ d) :
    Calls Try.prog 48 #[.slice A wins.length c, .slice B left.length d, .int .i64 k] w (Gives w (.bool (racer wins left k))) := by
  generalize hR : racer wins left k = R
  have HR := Lib.hid hR
  clear hR
  have wn : IntKind.i64.wrap ((wins.length : Int) - 1) = (wins.length : Int) - 1 := IntWalk.i64_in _ (by omega)
  have Ha := Lib.hid ha
  have Hb := Lib.hid hb
  clear ha hb
  cases h1 : raceOk wins left
  · have H1 := Lib.hid h1
    clear h1
    go_enter Try.func48, Try.ntmps48
    go_wp2_with fail
    refine (gives_v (sRaceOkG_c _ _ _ _ _ _ _ Ha.out Hb.out hm hm2 hcap) (congrArg Value.bool H1.out)).mono ?_
    rintro e w1 ⟨rfl, hb1⟩
    go_wp2
    go_ret
    exact ⟨ret_bool (by rw [← HR.out]; simp [racer, H1.out]), hb1⟩
  · cases h2 : inR k 0 ((wins.length : Int) - 1)
    · have H1 := Lib.hid h1
      have H2 := Lib.hid h2
      clear h1 h2
      go_enter Try.func48, Try.ntmps48
      go_wp2_with fail
      refine (gives_v (sRaceOkG_c _ _ _ _ _ _ _ Ha.out Hb.out hm hm2 hcap) (congrArg Value.bool H1.out)).mono ?_
      rintro e w1 ⟨rfl, hb1⟩
      have Hb1 := Lib.hid hb1
      clear hb1
      go_wp2_with fail
      refine (calls_v (l01In_c _ _ _ _) (congrArg Value.bool H2.out)).mono ?_
      rintro e w2 ⟨rfl, hq⟩
      go_wp2
      go_ret
      exact ⟨ret_bool (by rw [← HR.out]; simp [racer, H1.out, H2.out]), below_dr Hb1.out hq⟩
    · have H1 := Lib.hid h1
      have H2 := Lib.hid h2
      clear h1 h2
      go_enter Try.func48, Try.ntmps48
      go_wp2_with fail
      refine (gives_v (sRaceOkG_c _ _ _ _ _ _ _ Ha.out Hb.out hm hm2 hcap) (congrArg Value.bool H1.out)).mono ?_
      rintro e w1 ⟨rfl, hb1⟩
      have Hb1 := Lib.hid hb1
      clear hb1
      go_wp2_with fail
      refine (calls_v (l01In_c _ _ _ _) (congrArg Value.bool H2.out)).mono ?_
      rintro e w2 ⟨rfl, hq⟩
      go_wp2
      go_ret
      exact ⟨ret_bool (by rw [← HR.out]; simp [racer, H1.out, H2.out]), below_dr Hb1.out hq⟩

def gamesLeftF (wins : List Int) (left : List (List Int)) (k : Int) : Int := if racer wins left k = true then leftOf k 0 left else -1
def bestF (wins : List Int) (left : List (List Int)) (k : Int) : Int := if racer wins left k = true then wins.getD k.toNat 0 + leftOf k 0 left else -1

set_option maxHeartbeats 1000000 in
theorem IGamesLeft_c (A B : Option Addr) (c d : Nat) (wins : List Int) (left : List (List Int)) (k : Int) (w : World) (ha : Ints w A wins) (hb : Rows w B left) (hm : wins.length ≤ 1048576) (hm2 : left.length ≤ 1048576) (hcap : left.length ≤ d) :
    Calls Try.prog 21 #[.slice A wins.length c, .slice B left.length d, .int .i64 k] w (Gives w (.int .i64 (gamesLeftF wins left k))) := by
  generalize hR : gamesLeftF wins left k = R
  have HR := Lib.hid hR
  clear hR
  have Ha := Lib.hid ha
  have Hb := Lib.hid hb
  clear ha hb
  cases h1 : racer wins left k
  · have H1 := Lib.hid h1
    clear h1
    go_enter Try.func21, Try.ntmps21
    go_wp2_with fail
    refine (gives_v (isRacer_c _ _ _ _ _ _ _ _ Ha.out Hb.out hm hm2 hcap) (congrArg Value.bool H1.out)).mono ?_
    rintro e w1 ⟨rfl, hb1⟩
    go_wp2
    go_ret
    exact ⟨ret_int (by rw [← HR.out]; simp [gamesLeftF, H1.out]), hb1⟩
  · have hrc := (racer_race h1).games
    have H1 := Lib.hid h1
    have Hrc := Lib.hid hrc
    clear h1 hrc
    go_enter Try.func21, Try.ntmps21
    go_wp2_with fail
    refine (gives_v (isRacer_c _ _ _ _ _ _ _ _ Ha.out Hb.out hm hm2 hcap) (congrArg Value.bool H1.out)).mono ?_
    rintro e w1 ⟨rfl, hb1⟩
    have Hb1 := Lib.hid hb1
    clear hb1
    go_wp2_with fail
    refine (gamesLeft_c _ _ _ _ _ (Hb.out.keep (keep_of_below Hb1.out)) Hrc.out).mono ?_
    rintro e w2 ⟨rfl, hq⟩
    go_wp2
    go_ret
    exact ⟨ret_int (by rw [← HR.out]; simp [gamesLeftF, H1.out]), below_dr Hb1.out hq⟩

set_option maxHeartbeats 1000000 in
theorem IBestWins_c (A B : Option Addr) (c d : Nat) (wins : List Int) (left : List (List Int)) (k : Int) (w : World) (ha : Ints w A wins) (hb : Rows w B left) (hm : wins.length ≤ 1048576) (hm2 : left.length ≤ 1048576) (hcap : left.length ≤ d) :
    Calls Try.prog 23 #[.slice A wins.length c, .slice B left.length d, .int .i64 k] w (Gives w (.int .i64 (bestF wins left k))) := by
  generalize hR : bestF wins left k = R
  have HR := Lib.hid hR
  clear hR
  have Ha := Lib.hid ha
  have Hb := Lib.hid hb
  clear ha hb
  cases h1 : racer wins left k
  · have H1 := Lib.hid h1
    clear h1
    go_enter Try.func23, Try.ntmps23
    go_wp2_with fail
    refine (gives_v (isRacer_c _ _ _ _ _ _ _ _ Ha.out Hb.out hm hm2 hcap) (congrArg Value.bool H1.out)).mono ?_
    rintro e w1 ⟨rfl, hb1⟩
    go_wp2
    go_ret
    exact ⟨ret_int (by rw [← HR.out]; simp [bestF, H1.out]), hb1⟩
  · have hrace := racer_race h1
    have hrc := hrace.games
    obtain ⟨p, rfl, hp⟩ := racer_club h1
    obtain ⟨v, hv⟩ := some_of hp
    obtain ⟨v1, v2⟩ := hrace.win v (List.mem_of_getElem? hv)
    obtain ⟨l1, l2⟩ := leftOf_bound (n := wins.length) (p : Int) left 0 hrc.game
    have hfew := hrc.few
    have wv : IntKind.i64.wrap (v + leftOf (p : Int) 0 left) = v + leftOf (p : Int) 0 left := IntWalk.i64_in _ (by omega)
    have HS : Hid (v + leftOf (p : Int) 0 left = R) := Lib.hid (by rw [← HR.out]; simp [bestF, h1, hv])
    have H1 := Lib.hid h1
    have Hrc := Lib.hid hrc
    have Hrace := Lib.hid hrace
    have Hv := Lib.hid hv
    clear h1 hrc hrace hv
    go_enter Try.func23, Try.ntmps23
    go_wp2_with fail
    refine (gives_v (isRacer_c _ _ _ _ _ _ _ _ Ha.out Hb.out hm hm2 hcap) (congrArg Value.bool H1.out)).mono ?_
    rintro e w1 ⟨rfl, hb1⟩
    have Hb1 := Lib.hid hb1
    clear hb1
    obtain ⟨ad, rfl, hca⟩ := Ha.out.keep (keep_of_below Hb1.out) p v Hv.out
    go_wp2
    go_quiet ((go_at_call 51; exact quiet_call (gamesLeft_c _ _ _ _ _ ((Hb.out.keep (keep_of_below Hb1.out)).keep (Keep.drewN _ _)) Hrc.out)))
    go_wp2
    go_ret
    exact ⟨ret_int HS.out, Hb1.out.trans (below_drewN _ _ _)⟩

set_option maxHeartbeats 1000000 in
theorem SGamesLeft_c (A B : Option Addr) (c d : Nat) (wins : List Int) (left : List (List Int)) (k : Int) (w : World) (ha : Ints w A wins) (hb : Rows w B left) (hm : wins.length ≤ 1048576) (hm2 : left.length ≤ 1048576) (hcap : left.length ≤ d) :
    Calls Try.prog 20 #[.slice A wins.length c, .slice B left.length d, .int .i64 k] w (Gives w (.int .i64 (gamesLeftF wins left k))) := by
  generalize hR : gamesLeftF wins left k = R
  have HR := Lib.hid hR
  clear hR
  have Ha := Lib.hid ha
  have Hb := Lib.hid hb
  clear ha hb
  cases h1 : racer wins left k
  · have H1 := Lib.hid h1
    clear h1
    go_enter Try.func20, Try.ntmps20
    go_wp2_with fail
    refine (gives_v (l14Ok_c _ _ _ _ _ _ _ _ Ha.out Hb.out hm hm2 hcap) (congrArg Value.bool H1.out)).mono ?_
    rintro e w1 ⟨rfl, hb1⟩
    go_wp2
    go_ret
    exact ⟨ret_int (by rw [← HR.out]; simp [gamesLeftF, H1.out]), hb1⟩
  · have hrc := (racer_race h1).games
    have H1 := Lib.hid h1
    have Hrc := Lib.hid hrc
    clear h1 hrc
    go_enter Try.func20, Try.ntmps20
    go_wp2_with fail
    refine (gives_v (l14Ok_c _ _ _ _ _ _ _ _ Ha.out Hb.out hm hm2 hcap) (congrArg Value.bool H1.out)).mono ?_
    rintro e w1 ⟨rfl, hb1⟩
    have Hb1 := Lib.hid hb1
    clear hb1
    go_wp2_with fail
    refine (l14Left_c _ _ _ _ _ (Hb.out.keep (keep_of_below Hb1.out)) Hrc.out).mono ?_
    rintro e w2 ⟨rfl, hq⟩
    go_wp2
    go_ret
    exact ⟨ret_int (by rw [← HR.out]; simp [gamesLeftF, H1.out]), below_dr Hb1.out hq⟩

set_option maxHeartbeats 1000000 in
theorem SBestWins_c (A B : Option Addr) (c d : Nat) (wins : List Int) (left : List (List Int)) (k : Int) (w : World) (ha : Ints w A wins) (hb : Rows w B left) (hm : wins.length ≤ 1048576) (hm2 : left.length ≤ 1048576) (hcap : left.length ≤ d) :
    Calls Try.prog 22 #[.slice A wins.length c, .slice B left.length d, .int .i64 k] w (Gives w (.int .i64 (bestF wins left k))) := by
  generalize hR : bestF wins left k = R
  have HR := Lib.hid hR
  clear hR
  have Ha := Lib.hid ha
  have Hb := Lib.hid hb
  clear ha hb
  cases h1 : racer wins left k
  · have H1 := Lib.hid h1
    clear h1
    go_enter Try.func22, Try.ntmps22
    go_wp2_with fail
    refine (gives_v (l14Ok_c _ _ _ _ _ _ _ _ Ha.out Hb.out hm hm2 hcap) (congrArg Value.bool H1.out)).mono ?_
    rintro e w1 ⟨rfl, hb1⟩
    go_wp2
    go_ret
    exact ⟨ret_int (by rw [← HR.out]; simp [bestF, H1.out]), hb1⟩
  · have hrace := racer_race h1
    have hrc := hrace.games
    obtain ⟨p, rfl, hp⟩ := racer_club h1
    obtain ⟨v, hv⟩ := some_of hp
    obtain ⟨v1, v2⟩ := hrace.win v (List.mem_of_getElem? hv)
    obtain ⟨l1, l2⟩ := leftOf_bound (n := wins.length) (p : Int) left 0 hrc.game
    have hfew := hrc.few
    have wv : IntKind.i64.wrap (v + leftOf (p : Int) 0 left) = v + leftOf (p : Int) 0 left := IntWalk.i64_in _ (by omega)
    have HS : Hid (v + leftOf (p : Int) 0 left = R) := Lib.hid (by rw [← HR.out]; simp [bestF, h1, hv])
    have H1 := Lib.hid h1
    have Hrc := Lib.hid hrc
    have Hrace := Lib.hid hrace
    have Hv := Lib.hid hv
    clear h1 hrc hrace hv
    go_enter Try.func22, Try.ntmps22
    go_wp2_with fail
    refine (gives_v (l14Ok_c _ _ _ _ _ _ _ _ Ha.out Hb.out hm hm2 hcap) (congrArg Value.bool H1.out)).mono ?_
    rintro e w1 ⟨rfl, hb1⟩
    have Hb1 := Lib.hid hb1
    clear hb1
    obtain ⟨ad, rfl, hca⟩ := Ha.out.keep (keep_of_below Hb1.out) p v Hv.out
    go_wp2
    go_quiet ((go_at_call 49; exact quiet_call (l14Left_c _ _ _ _ _ ((Hb.out.keep (keep_of_below Hb1.out)).keep (Keep.drewN _ _)) Hrc.out)))
    go_wp2
    go_ret
    exact ⟨ret_int HS.out, Hb1.out.trans (below_drewN _ _ _)⟩

end Go.Proofs.Ytdgmmgaihgpccaa
