/- Contracts: TiedIn (program and reference). -/
import Derived.Test.YtehlijpjcjegcaaLgK
namespace Go.Proofs.Ytehlijpjcjegcaa
set_option linter.unusedSimpArgs false
set_option linter.unusedVariables false
open Go.RowKit

def clubOk (n : Int) (rs : List Res) (k : Int) : Bool := leagueOk n rs && inR k 0 (n - 1)
set_option maxHeartbeats 1000000 in
theorem l12Club_c (n : Int) (A : Option Addr) (c : Nat) (rs : List Res) (k : Int) (w : World) (ha : Games w A rs) (hm : rs.length ≤ 1048576) :
    Calls Try.prog 40 #[lgv n A rs.length c, .int .i64 k] w (Gives w (.bool (clubOk n rs k))) := by
  generalize hR : clubOk n rs k = R
  have HR := Lib.hid hR
  clear hR
  have hlc := fun W (h : Games W A rs) => sLeagueOk_c n A c rs W h hm
  obtain ⟨b0, b1⟩ := box2 w (.int .i64 n) (.slice A rs.length c) 29
  have hbw : Below w.heap.size w (w.alloc (.cells #[.int .i64 n, .slice A rs.length c] 29)) := (Below.refl _ _).alloc (Nat.le_refl _) _
  have hg0 := ha.keep (keep_of_below hbw)
  unfold lgv at hlc ⊢
  cases h1 : leagueOk n rs
  · have hR2 : false = R := by rw [← HR.out, clubOk, h1]; rfl
    simp only [h1] at hlc
    have Ha := Lib.hid ha
    have Hlc := Lib.hid hlc
    have Hbw := Lib.hid hbw
    have Hg0 := Lib.hid hg0
    have H1 := Lib.hid h1
    have HR2 := Lib.hid hR2
    clear ha hlc hbw hg0 h1 hR2
    clear HR
    go_enter Try.func40, Try.ntmps40
    go_wp2_with fail
    refine (Hlc.out _ Hg0.out).mono ?_
    rintro e w1 ⟨rfl, hb⟩
    go_wp2
    go_ret
    exact ⟨ret_bool HR2.out, Hbw.out.trans (hb.mono Hbw.out.size)⟩
  · have hR2 : inR k 0 (n - 1) = R := by rw [← HR.out, clubOk, h1]; rfl
    have hL := league_of h1
    have hn2 := hL.two
    have hn8 := hL.eight
    simp only [h1] at hlc
    have Ha := Lib.hid ha
    have Hlc := Lib.hid hlc
    have Hbw := Lib.hid hbw
    have Hg0 := Lib.hid hg0
    have H1 := Lib.hid h1
    have HR2 := Lib.hid hR2
    have HL := Lib.hid hL
    clear ha hlc hbw hg0 h1 hR2 hL
    clear HR
    go_enter Try.func40, Try.ntmps40
    go_wp2_with fail
    refine (Hlc.out _ Hg0.out).mono ?_
    rintro e w1 ⟨rfl, hb⟩
    have c0 := keep_of_below hb _ _ b0
    have c1 := keep_of_below hb _ _ b1
    have Hb := Lib.hid (Hbw.out.trans (hb.mono Hbw.out.size))
    clear hb b0 b1
    go_wp2_with fail
    refine (calls_v (l01In_c k 0 (n - 1) _) (congrArg Value.bool HR2.out)).mono ?_
    rintro e w2 ⟨rfl, hq⟩
    go_wp2
    go_ret
    exact ⟨rfl, Hb.out.trans (hq.below _)⟩

theorem pointsF_len {n : Nat} {rs : List Res} (hL : League n rs) : (pointsF n rs).length = n := (ptFold_bnd rs _ 0 (bnd_zeros n 0 (Int.le_refl _)) hL.ok).len
set_option maxHeartbeats 1000000 in
theorem sTiedIn_c (n : Int) (A : Option Addr) (c : Nat) (rs : List Res) (k : Int) (w : World) (ha : Games w A rs) (hm : rs.length ≤ 1048576) :
    Calls Try.prog 12 #[lgv n A rs.length c, .int .i64 k] w (Gives w (.int .i64 (tiedF n rs k : Nat))) := by
  generalize hR : tiedF n rs k = R
  have HR := Lib.hid hR
  clear hR
  have hcc := fun W (h : Games W A rs) => l12Club_c n A c rs k W h hm
  obtain ⟨b0, b1⟩ := box2 w (.int .i64 n) (.slice A rs.length c) 29
  have hbw : Below w.heap.size w (w.alloc (.cells #[.int .i64 n, .slice A rs.length c] 29)) := (Below.refl _ _).alloc (Nat.le_refl _) _
  have hg0 := ha.keep (keep_of_below hbw)
  cases h1 : clubOk n rs k
  · have hR2 : 0 = R := by rw [← HR.out, tiedF, if_neg]; intro e; rw [clubOk, e.1, e.2] at h1; cases h1
    subst hR2
    simp only [h1] at hcc
    unfold lgv at hcc ⊢
    have Ha := Lib.hid ha
    have Hcc := Lib.hid hcc
    have Hbw := Lib.hid hbw
    have Hg0 := Lib.hid hg0
    have H1 := Lib.hid h1
    clear ha hcc hbw hg0 h1
    clear HR
    go_enter Try.func12, Try.ntmps12
    go_wp2_with fail
    refine (Hcc.out _ Hg0.out).mono ?_
    rintro e w1 ⟨rfl, hb⟩
    go_wp2
    go_ret
    exact ⟨rfl, Hbw.out.trans (hb.mono Hbw.out.size)⟩
  · have h2 : leagueOk n rs = true ∧ inR k 0 (n - 1) = true := by simpa [clubOk] using h1
    have hL := league_of h2.1
    obtain ⟨m, rfl⟩ := Int.eq_ofNat_of_zero_le (show 0 ≤ n by have := hL.two; omega)
    have hk := inR_true h2.2
    obtain ⟨k, rfl⟩ := Int.eq_ofNat_of_zero_le hk.1
    have hkm : k < m := by omega
    have hm8 : m ≤ 8 := by have := hL.eight; omega
    have hR2 : tiedOf (pointsF m rs) k = R := by rw [← HR.out, tiedF, if_pos h2]; rfl
    have hpl := pointsF_len hL
    have hpc := fun W (h : Games W A rs) => l12All_c m A c rs W h h2.1
    have htc := fun B d W (h : Ints W B (pointsF m rs)) => l13Tied_c B d (pointsF m rs) k W h (by omega) (by omega)
    rw [hR2] at htc
    simp only [h1] at hcc
    generalize pointsF m rs = l at hpl hpc htc
    simp only [hpl] at htc
    unfold lgv at hcc hpc ⊢
    have Ha := Lib.hid ha
    have Hcc := Lib.hid hcc
    have Hbw := Lib.hid hbw
    have Hg0 := Lib.hid hg0
    have H1 := Lib.hid h1
    have H2 := Lib.hid h2
    have HL := Lib.hid hL
    have Hpl := Lib.hid hpl
    have Hpc := Lib.hid hpc
    have Htc := Lib.hid htc
    clear ha hcc hbw hg0 h1 h2 hL hpl hpc htc
    clear HR hR2 hk
    go_enter Try.func12, Try.ntmps12
    go_wp2_with fail
    refine (Hcc.out _ Hg0.out).mono ?_
    rintro e w1 ⟨rfl, hb⟩
    have c0 := keep_of_below hb _ _ b0
    have c1 := keep_of_below hb _ _ b1
    have Hb := Lib.hid (Hbw.out.trans (hb.mono Hbw.out.size))
    clear hb b0 b1
    go_wp2_with fail
    refine (Hpc.out _ (Ha.out.keep (keep_of_below Hb.out))).mono ?_
    rintro e w2 ⟨B, d, rfl, ho, hb2⟩
    have Hb2 := Lib.hid (Hb.out.trans (hb2.mono Hb.out.size))
    rw [Hpl.out]
    have Hi := Lib.hid ho.ints
    clear ho hb2 c0 c1
    go_wp2_with fail
    refine (Htc.out _ _ _ Hi.out).mono ?_
    rintro e w3 ⟨rfl, hq⟩
    go_wp2
    go_ret
    exact ⟨rfl, Hb2.out.trans (hq.below _)⟩

set_option maxHeartbeats 1000000 in
theorem iTiedIn_c (n : Int) (A : Option Addr) (c : Nat) (rs : List Res) (k : Int) (w : World) (ha : Games w A rs) (hm : rs.length ≤ 1048576) :
    Calls Try.prog 14 #[lgv n A rs.length c, .int .i64 k] w (Gives w (.int .i64 (tiedF n rs k : Nat))) := by
  generalize hR : tiedF n rs k = R
  have HR := Lib.hid hR
  clear hR
  have hcc := fun W (h : Games W A rs) => iLeagueOk_c n A c rs W h hm
  obtain ⟨b0, b1⟩ := box2 w (.int .i64 n) (.slice A rs.length c) 29
  have hbw : Below w.heap.size w (w.alloc (.cells #[.int .i64 n, .slice A rs.length c] 29)) := (Below.refl _ _).alloc (Nat.le_refl _) _
  have hg0 := ha.keep (keep_of_below hbw)
  cases h1 : leagueOk n rs
  · have hR2 : 0 = R := by rw [← HR.out, tiedF, if_neg]; intro e; rw [h1] at e; cases e.1
    subst hR2
    simp only [h1] at hcc
    unfold lgv at hcc ⊢
    have Ha := Lib.hid ha
    have Hcc := Lib.hid hcc
    have Hbw := Lib.hid hbw
    have Hg0 := Lib.hid hg0
    have H1 := Lib.hid h1
    clear ha hcc hbw hg0 h1
    clear HR
    go_enter Try.func14, Try.ntmps14
    go_wp2_with fail
    refine (Hcc.out _ Hg0.out).mono ?_
    rintro e w1 ⟨rfl, hb⟩
    have c0 := keep_of_below hb _ _ b0
    have c1 := keep_of_below hb _ _ b1
    go_wp2
    go_ret
    exact ⟨rfl, Hbw.out.trans (hb.mono Hbw.out.size)⟩
  · have hL := league_of h1
    have hn2 := hL.two
    have hn8 := hL.eight
    have hhc := fun W => has_c n A rs.length c k W (by omega) (by omega)
    simp only [h1] at hcc
    cases h2 : inR k 0 (n - 1)
    · have hR2 : 0 = R := by rw [← HR.out, tiedF, if_neg]; intro e; rw [h2] at e; cases e.2
      subst hR2
      simp only [h2] at hhc
      unfold lgv at hcc hhc ⊢
      have Ha := Lib.hid ha
      have Hcc := Lib.hid hcc
      have Hbw := Lib.hid hbw
      have Hg0 := Lib.hid hg0
      have H1 := Lib.hid h1
      have H2 := Lib.hid h2
      have Hhc := Lib.hid hhc
      have HL := Lib.hid hL
      clear ha hcc hbw hg0 h1 h2 hhc hL
      clear HR
      go_enter Try.func14, Try.ntmps14
      go_wp2_with fail
      refine (Hcc.out _ Hg0.out).mono ?_
      rintro e w1 ⟨rfl, hb⟩
      have c0 := keep_of_below hb _ _ b0
      have c1 := keep_of_below hb _ _ b1
      have Hb := Lib.hid (Hbw.out.trans (hb.mono Hbw.out.size))
      clear hb b0 b1
      go_wp2_with fail
      refine (Hhc.out _).mono ?_
      rintro e w2 ⟨rfl, hb⟩
      go_wp2
      go_ret
      exact ⟨rfl, Hb.out.trans (hb.mono Hb.out.size)⟩
    · obtain ⟨m, rfl⟩ := Int.eq_ofNat_of_zero_le (show 0 ≤ n by omega)
      have hk := inR_true h2
      obtain ⟨k, rfl⟩ := Int.eq_ofNat_of_zero_le hk.1
      have hkm : k < m := by omega
      have hR2 : tiedOf (pointsF m rs) k = R := by rw [← HR.out, tiedF, if_pos ⟨h1, h2⟩]; rfl
      have htc := fun W (h : Games W A rs) => tied_c m A c rs k W h h1 hkm
      simp only [h2] at hhc
      rw [hR2] at htc
      unfold lgv at hcc hhc htc ⊢
      have Ha := Lib.hid ha
      have Hcc := Lib.hid hcc
      have Hbw := Lib.hid hbw
      have Hg0 := Lib.hid hg0
      have H1 := Lib.hid h1
      have H2 := Lib.hid h2
      have Hhc := Lib.hid hhc
      have HL := Lib.hid hL
      have Htc := Lib.hid htc
      clear ha hcc hbw hg0 h1 h2 hhc hL htc
      clear HR hR2 hk
      go_enter Try.func14, Try.ntmps14
      go_wp2_with fail
      refine (Hcc.out _ Hg0.out).mono ?_
      rintro e w1 ⟨rfl, hb⟩
      have c0 := keep_of_below hb _ _ b0
      have c1 := keep_of_below hb _ _ b1
      have Hb := Lib.hid (Hbw.out.trans (hb.mono Hbw.out.size))
      clear hb b0 b1
      go_wp2_with fail
      refine (Hhc.out _).mono ?_
      rintro e w2 ⟨rfl, hb⟩
      have c2 := keep_of_below hb _ _ c0
      have c3 := keep_of_below hb _ _ c1
      have Hb2 := Lib.hid (Hb.out.trans (hb.mono Hb.out.size))
      clear hb c0 c1
      go_wp2_with fail
      refine (Htc.out _ (Ha.out.keep (keep_of_below Hb2.out))).mono ?_
      rintro e w3 ⟨rfl, hb⟩
      go_wp2
      go_ret
      exact ⟨rfl, Hb2.out.trans (hb.mono Hb2.out.size)⟩
end Go.Proofs.Ytehlijpjcjegcaa
