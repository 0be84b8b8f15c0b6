/- Contracts: first in the endings of a last day (program and reference). -/
import Derived.Test.YteigcfcabmoghaaDayC
import Derived.Test.YteigcfcabmoghaaOpen
namespace Go.Proofs.Yteigcfcabmoghaa
open Go.RowKit

def firstF (pts : List Int) (games : List (List Int)) (k : Int) : Int := if ofDay pts games k = true then (placesF pts games k).getD 0 0 else -1

set_option maxHeartbeats 1000000 in
theorem iCountPlaces_no (A B : Option Addr) (c d : Nat) (points : List Int) (games : List (List Int)) (k : Int) (w : World) (ha : Ints w A points) (hb : Rows w B games) (hm : points.length ≤ 1048576) (h1 : ofDay points games k = false) :
    Calls Try.prog 30 #[.slice A points.length c, .slice B games.length d, .int .i64 k] w (Gives w (.slice none 0 0)) := by
  have Ha := Lib.hid ha
  have Hb := Lib.hid hb
  have H1 := Lib.hid h1
  clear ha hb h1
  go_enter Try.func30, Try.ntmps30
  go_wp2_with fail
  refine (gives_v (isOfDay_c _ _ _ _ _ _ _ _ Ha.out Hb.out hm) (congrArg Value.bool H1.out)).mono ?_
  rintro e w1 ⟨rfl, hb1⟩
  go_wp2
  go_ret
  exact ⟨rfl, hb1⟩

theorem placesF_len {pts : List Int} {games : List (List Int)} {k : Int} (h : ofDay pts games k = true) : (placesF pts games k).length = pts.length := by
  rw [placesF, if_pos h, places_length]; simp

set_option maxHeartbeats 1000000 in
theorem iCountFirst_c (A B : Option Addr) (c d : Nat) (points : List Int) (games : List (List Int)) (k : Int) (w : World) (ha : Ints w A points) (hb : Rows w B games) (hm : points.length ≤ 1048576) :
    Calls Try.prog 28 #[.slice A points.length c, .slice B games.length d, .int .i64 k] w (Gives w (.int .i64 (firstF points games k))) := by
  generalize hR : firstF points games k = R
  have HR := Lib.hid hR
  clear hR
  have hnil := fun (W : World) (a : Option Addr) (n c : Nat) => Lib.run_eql_slice_nil (P := Try.prog) W 22 3 a n c 0 0 Try.underlying22
  have Ha := Lib.hid ha
  have Hb := Lib.hid hb
  clear ha hb
  cases h1 : ofDay points games k
  · have HS : Hid (-1 = R) := Lib.hid (by rw [← HR.out]; simp [firstF, h1])
    have H1 := Lib.hid h1
    clear h1
    go_enter Try.func28, Try.ntmps28
    go_wp2_with fail
    refine (iCountPlaces_no _ _ _ _ _ _ _ _ Ha.out Hb.out hm H1.out).mono ?_
    rintro e w1 ⟨rfl, hb1⟩
    go_wp2
    go_ret
    exact ⟨ret_int HS.out, hb1⟩
  · obtain ⟨hdok, p, rfl, hp⟩ := ofDay_day h1
    have hlen := placesF_len h1
    obtain ⟨L, hL⟩ : ∃ L, placesF points games p = L := ⟨_, rfl⟩
    rw [hL] at hlen
    obtain ⟨v, hv⟩ := some_of (l := L) (k := 0) (by omega)
    have HS : Hid (v = R) := Lib.hid (by rw [← HR.out, firstF, if_pos h1, hL]; simp [hv])
    have hcp := givesI_v (iCountPlaces_c A B c d points games p w Ha.out Hb.out hm) hL
    have hp0 : (0 : Int) < (points.length : Int) := by omega
    have H1 := Lib.hid h1
    have Hlen := Lib.hid hlen
    have HL := Lib.hid hL
    have Hv := Lib.hid hv
    have Hdok := Lib.hid hdok
    have Hcp := Lib.hid hcp
    clear h1 hlen hL hv hdok hcp
    go_enter Try.func28, Try.ntmps28
    go_wp2_with fail
    refine Hcp.out.mono ?_
    rintro e w1 ⟨C, cc, e1, ho, hb1⟩
    rw [Hlen.out] at e1
    subst e1
    obtain ⟨g0, rfl, _, _, h0, _⟩ := ownr ho Hv.out
    clear ho
    go_wp2
    go_ret
    exact ⟨ret_int HS.out, hb1⟩

set_option maxHeartbeats 1000000 in
theorem sCountFirst_c (A B : Option Addr) (c d : Nat) (points : List Int) (games : List (List Int)) (k : Int) (w : World) (ha : Ints w A points) (hb : Rows w B games) (hm : points.length ≤ 1048576) :
    Calls Try.prog 27 #[.slice A points.length c, .slice B games.length d, .int .i64 k] w (Gives w (.int .i64 (firstF points games k))) := by
  generalize hR : firstF points games k = R
  have HR := Lib.hid hR
  clear hR
  have Ha := Lib.hid ha
  have Hb := Lib.hid hb
  clear ha hb
  cases h1 : ofDay points games k
  · have HS : Hid (-1 = R) := Lib.hid (by rw [← HR.out]; simp [firstF, h1])
    have hcp := givesI_v (sCountPlaces_c A B c d points games k w Ha.out Hb.out hm) (show placesF points games k = [] from by simp [placesF, h1])
    have H1 := Lib.hid h1
    have Hcp := Lib.hid hcp
    clear h1 hcp
    go_enter Try.func27, Try.ntmps27
    go_wp2_with fail
    refine Hcp.out.mono ?_
    rintro e w1 ⟨C, cc, rfl, ho, hb1⟩
    clear ho
    go_wp2
    go_ret
    exact ⟨ret_int HS.out, hb1⟩
  · obtain ⟨hdok, p, rfl, hp⟩ := ofDay_day h1
    have hlen := placesF_len h1
    obtain ⟨L, hL⟩ : ∃ L, placesF points games p = L := ⟨_, rfl⟩
    rw [hL] at hlen
    obtain ⟨v, hv⟩ := some_of (l := L) (k := 0) (by omega)
    have HS : Hid (v = R) := Lib.hid (by rw [← HR.out, firstF, if_pos h1, hL]; simp [hv])
    have hcp := givesI_v (sCountPlaces_c A B c d points games p w Ha.out Hb.out hm) hL
    have hp0 : (0 : Int) < (points.length : Int) := by omega
    have hne : ((points.length : Int) == 0) = false := by rw [beq_eq_false_iff_ne]; omega
    have H1 := Lib.hid h1
    have Hlen := Lib.hid hlen
    have HL := Lib.hid hL
    have Hv := Lib.hid hv
    have Hdok := Lib.hid hdok
    have Hcp := Lib.hid hcp
    clear h1 hlen hL hv hdok hcp
    go_enter Try.func27, Try.ntmps27
    go_wp2_with fail
    refine Hcp.out.mono ?_
    rintro e w1 ⟨C, cc, e1, ho, hb1⟩
    rw [Hlen.out] at e1
    subst e1
    obtain ⟨g0, rfl, _, _, h0, _⟩ := ownr ho Hv.out
    clear ho
    go_wp2
    go_ret
    exact ⟨ret_int HS.out, hb1⟩
end Go.Proofs.Yteigcfcabmoghaa
