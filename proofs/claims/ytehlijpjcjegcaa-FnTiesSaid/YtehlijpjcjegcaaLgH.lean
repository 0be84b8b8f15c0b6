/- Contracts: whether a league is valid (reference), the points of a result (program and reference). -/
import Derived.Test.YtehlijpjcjegcaaLgG
namespace Go.Proofs.Ytehlijpjcjegcaa
set_option linter.unusedSimpArgs false
set_option linter.unusedVariables false
open Go.RowKit

set_option maxRecDepth 100000 in
set_option maxHeartbeats 4000000 in
theorem sLeagueOk_c (n : Int) (A : Option Addr) (c : Nat) (rs : List Res) (w : World) (ha : Games w A rs) (hm : rs.length ≤ 1048576) :
    Calls Try.prog 48 #[lgv n A rs.length c] w (Gives w (.bool (leagueOk n rs))) := by
  generalize hR : leagueOk n rs = R
  have HR := Lib.hid hR
  clear hR
  unfold lgv
  obtain ⟨m, hn⟩ : ∃ m, rs.length = m := ⟨_, rfl⟩
  rw [hn] at hm ⊢
  have Ha := Lib.hid ha
  have Hn := Lib.hid hn
  clear ha hn
  obtain ⟨b0, b1⟩ := box2 w (.int .i64 n) (.slice A m c) 29
  have hb1 : Below w.heap.size w (w.alloc (.cells #[.int .i64 n, .slice A m c] 29)) := (Below.refl _ _).alloc (Nat.le_refl _) _
  have Hb1 := Lib.hid hb1
  have B0 := Lib.hid b0
  have B1 := Lib.hid b1
  clear hb1 b0 b1
  cases e1 : inR n 2 8
  · have hR2 : false = R := by rw [← HR.out]; simp [leagueOk, e1]
    have HR2 := Lib.hid hR2
    have E1 := Lib.hid e1
    clear hR2 e1
    clear HR
    go_enter Try.func48, Try.ntmps48
    go_wp2_with fail
    refine (calls_v (l01In_c n 2 8 _) (congrArg Value.bool E1.out)).mono ?_
    rintro e w1 ⟨rfl, hq⟩
    go_wp2
    go_ret
    exact ⟨ret_bool HR2.out, Hb1.out.trans (hq.below _)⟩
  · have q1 := inR_true e1
    by_cases hl : m ≤ 60
    · have HS : Hid (rs.all (resOk n) = R) := Lib.hid (by rw [← HR.out]; simp [leagueOk, e1, Hn.out, hl])
      have hli : ¬ (60 : Int) < (m : Int) := by omega
      have E1 := Lib.hid e1
      clear e1
      clear HR
      go_enter Try.func48, Try.ntmps48
      go_wp2_with fail
      refine (calls_v (l01In_c n 2 8 _) (congrArg Value.bool E1.out)).mono ?_
      rintro e w1 ⟨rfl, hq⟩
      have c0 := hq.keep _ _ B0.out
      have c1 := hq.keep _ _ B1.out
      have hbw := Hb1.out.trans (hq.below w.heap.size)
      have hg1 := Ha.out.keep (keep_of_below hbw)
      have hz1 := hbw.size
      have C0 := Lib.hid c0
      have C1 := Lib.hid c1
      have Hbw := Lib.hid hbw
      have Hg1 := Lib.hid hg1
      clear hbw hg1
      clear hq B0 B1 Hb1
      go_wp2
      clear c0 c1
      go_loopw [18] (fun i wr => ∃ k : Nat, k ≤ m ∧ i = .int .i64 k ∧ (rs.drop k).all (resOk n) = R ∧ Below w1.heap.size w1 wr) (fun i _ => m - (intOf i).toNat)
      case atStart => exact ⟨0, Nat.zero_le _, rfl, HS.out, Below.refl _ _⟩
      case round =>
        clear HS
        obtain ⟨k, hk, rfl, hS, hd⟩ := hrel
        have Hd := Lib.hid hd
        clear hd
        by_cases hlt : k < m
        · have hki : (k : Int) < (m : Int) := by omega
          obtain ⟨⟨h, a, g, t⟩, hr⟩ := some_of (l := rs) (k := k) (by rw [Hn.out]; exact hlt)
          rw [drop_of hr, List.all_cons] at hS
          have hcw0 := keep_of_below Hd.out _ _ C0.out
          have hcw1 := keep_of_below Hd.out _ _ C1.out
          obtain ⟨ad, rfl, a0, a1, a2, a3⟩ := (Hg1.out.keep (keep_of_below Hd.out)) k _ hr
          obtain ⟨b0, b1, b2, b3⟩ := box4 wr (.int .i64 h) (.int .i64 a) (.int .i64 g) (.int .i64 t) 47
          have hbr : Below wr.heap.size wr (wr.alloc (.cells #[.int .i64 h, .int .i64 a, .int .i64 g, .int .i64 t] 47)) := (Below.refl _ _).alloc (Nat.le_refl _) _
          have HC0 : Hid (Ctx (wr.alloc (.cells #[.int .i64 h, .int .i64 a, .int .i64 g, .int .i64 t] 47)) w.heap.size wr.heap.size n (some ad) m c ⟨h, a, g, t⟩) := Lib.hid ⟨keep_of_below hbr _ _ hcw0, keep_of_below hbr _ _ hcw1, b0, b1, b2, b3⟩
          have Hq0 := Lib.hid (Hd.out.trans (hbr.mono Hd.out.size))
          have Hr := Lib.hid hr
          clear hr
          clear hcw0 hcw1 b0 b1 b2 b3 hbr
          simp only at a0 a1 a2 a3
          cases e0 : inR h 0 (n - 1)
          · skip
            have hS2 : false = R := by rw [← hS]; simp [resOk, e0]
            have HS2 := Lib.hid hS2
            have E0 := Lib.hid e0
            clear hS2 e0
            clear hS
            obtain ⟨c0, c1, r0, r1, r2, r3⟩ := HC0.out
            go_wp2_with fail
            refine (calls_v (l01In_c h 0 (n - 1) _) (congrArg Value.bool E0.out)).mono ?_
            rintro e v1 ⟨rfl, hq⟩
            have HC1 := Lib.hid (HC0.out.keep hq.keep)
            have Hq1 := Lib.hid (Hq0.out.trans (hq.below _))
            clear hq
            clear c0 c1 r0 r1 r2 r3
            obtain ⟨c0, c1, r0, r1, r2, r3⟩ := HC1.out
            go_wp2
            go_ret
            exact ⟨ret_bool HS2.out, Hbw.out.trans (Hq1.out.mono hz1)⟩
          · skip
            cases e1 : inR a 0 (n - 1)
            · skip
              have hS2 : false = R := by rw [← hS]; simp [resOk, e0, e1]
              have HS2 := Lib.hid hS2
              have E0 := Lib.hid e0
              have E1 := Lib.hid e1
              clear hS2 e0 e1
              clear hS
              obtain ⟨c0, c1, r0, r1, r2, r3⟩ := HC0.out
              go_wp2_with fail
              refine (calls_v (l01In_c h 0 (n - 1) _) (congrArg Value.bool E0.out)).mono ?_
              rintro e v1 ⟨rfl, hq⟩
              have HC1 := Lib.hid (HC0.out.keep hq.keep)
              have Hq1 := Lib.hid (Hq0.out.trans (hq.below _))
              clear hq
              clear c0 c1 r0 r1 r2 r3
              obtain ⟨c0, c1, r0, r1, r2, r3⟩ := HC1.out
              go_wp2_with fail
              refine (calls_v (l01In_c a 0 (n - 1) _) (congrArg Value.bool E1.out)).mono ?_
              rintro e v2 ⟨rfl, hq⟩
              have HC2 := Lib.hid (HC1.out.keep hq.keep)
              have Hq2 := Lib.hid (Hq1.out.trans (hq.below _))
              clear hq
              clear c0 c1 r0 r1 r2 r3
              obtain ⟨c0, c1, r0, r1, r2, r3⟩ := HC2.out
              go_wp2
              go_ret
              exact ⟨ret_bool HS2.out, Hbw.out.trans (Hq2.out.mono hz1)⟩
            · skip
              by_cases e2 : h = a
              · skip
                subst e2
                have hS2 : false = R := by rw [← hS]; simp [resOk, e0, e1]
                have HS2 := Lib.hid hS2
                have E0 := Lib.hid e0
                have E1 := Lib.hid e1
                clear hS2 e0 e1
                clear hS
                obtain ⟨c0, c1, r0, r1, r2, r3⟩ := HC0.out
                go_wp2_with fail
                refine (calls_v (l01In_c h 0 (n - 1) _) (congrArg Value.bool E0.out)).mono ?_
                rintro e v1 ⟨rfl, hq⟩
                have HC1 := Lib.hid (HC0.out.keep hq.keep)
                have Hq1 := Lib.hid (Hq0.out.trans (hq.below _))
                clear hq
                clear c0 c1 r0 r1 r2 r3
                obtain ⟨c0, c1, r0, r1, r2, r3⟩ := HC1.out
                go_wp2_with fail
                refine (calls_v (l01In_c h 0 (n - 1) _) (congrArg Value.bool E1.out)).mono ?_
                rintro e v2 ⟨rfl, hq⟩
                have HC2 := Lib.hid (HC1.out.keep hq.keep)
                have Hq2 := Lib.hid (Hq1.out.trans (hq.below _))
                clear hq
                clear c0 c1 r0 r1 r2 r3
                obtain ⟨c0, c1, r0, r1, r2, r3⟩ := HC2.out
                go_wp2
                go_ret
                exact ⟨ret_bool HS2.out, Hbw.out.trans (Hq2.out.mono hz1)⟩
              · skip
                cases e3 : inR g 0 99
                · skip
                  have hS2 : false = R := by rw [← hS]; simp [resOk, e0, e1, e2, e3]
                  have e2b : (h == a) = false := by simp [e2]
                  have HS2 := Lib.hid hS2
                  have E0 := Lib.hid e0
                  have E1 := Lib.hid e1
                  have E3 := Lib.hid e3
                  clear hS2 e0 e1 e3
                  clear hS
                  clear e2
                  obtain ⟨c0, c1, r0, r1, r2, r3⟩ := HC0.out
                  go_wp2_with fail
                  refine (calls_v (l01In_c h 0 (n - 1) _) (congrArg Value.bool E0.out)).mono ?_
                  rintro e v1 ⟨rfl, hq⟩
                  have HC1 := Lib.hid (HC0.out.keep hq.keep)
                  have Hq1 := Lib.hid (Hq0.out.trans (hq.below _))
                  clear hq
                  clear c0 c1 r0 r1 r2 r3
                  obtain ⟨c0, c1, r0, r1, r2, r3⟩ := HC1.out
                  go_wp2_with fail
                  refine (calls_v (l01In_c a 0 (n - 1) _) (congrArg Value.bool E1.out)).mono ?_
                  rintro e v2 ⟨rfl, hq⟩
                  have HC2 := Lib.hid (HC1.out.keep hq.keep)
                  have Hq2 := Lib.hid (Hq1.out.trans (hq.below _))
                  clear hq
                  clear c0 c1 r0 r1 r2 r3
                  obtain ⟨c0, c1, r0, r1, r2, r3⟩ := HC2.out
                  go_wp2_with fail
                  refine (calls_v (l01In_c g 0 99 _) (congrArg Value.bool E3.out)).mono ?_
                  rintro e v3 ⟨rfl, hq⟩
                  have HC3 := Lib.hid (HC2.out.keep hq.keep)
                  have Hq3 := Lib.hid (Hq2.out.trans (hq.below _))
                  clear hq
                  clear c0 c1 r0 r1 r2 r3
                  obtain ⟨c0, c1, r0, r1, r2, r3⟩ := HC3.out
                  go_wp2
                  go_ret
                  exact ⟨ret_bool HS2.out, Hbw.out.trans (Hq3.out.mono hz1)⟩
                · skip
                  cases e4 : inR t 0 99
                  · skip
                    have hS2 : false = R := by rw [← hS]; simp [resOk, e0, e1, e2, e3, e4]
                    have e2b : (h == a) = false := by simp [e2]
                    have HS2 := Lib.hid hS2
                    have E0 := Lib.hid e0
                    have E1 := Lib.hid e1
                    have E3 := Lib.hid e3
                    have E4 := Lib.hid e4
                    clear hS2 e0 e1 e3 e4
                    clear hS
                    clear e2
                    obtain ⟨c0, c1, r0, r1, r2, r3⟩ := HC0.out
                    go_wp2_with fail
                    refine (calls_v (l01In_c h 0 (n - 1) _) (congrArg Value.bool E0.out)).mono ?_
                    rintro e v1 ⟨rfl, hq⟩
                    have HC1 := Lib.hid (HC0.out.keep hq.keep)
                    have Hq1 := Lib.hid (Hq0.out.trans (hq.below _))
                    clear hq
                    clear c0 c1 r0 r1 r2 r3
                    obtain ⟨c0, c1, r0, r1, r2, r3⟩ := HC1.out
                    go_wp2_with fail
                    refine (calls_v (l01In_c a 0 (n - 1) _) (congrArg Value.bool E1.out)).mono ?_
                    rintro e v2 ⟨rfl, hq⟩
                    have HC2 := Lib.hid (HC1.out.keep hq.keep)
                    have Hq2 := Lib.hid (Hq1.out.trans (hq.below _))
                    clear hq
                    clear c0 c1 r0 r1 r2 r3
                    obtain ⟨c0, c1, r0, r1, r2, r3⟩ := HC2.out
                    go_wp2_with fail
                    refine (calls_v (l01In_c g 0 99 _) (congrArg Value.bool E3.out)).mono ?_
                    rintro e v3 ⟨rfl, hq⟩
                    have HC3 := Lib.hid (HC2.out.keep hq.keep)
                    have Hq3 := Lib.hid (Hq2.out.trans (hq.below _))
                    clear hq
                    clear c0 c1 r0 r1 r2 r3
                    obtain ⟨c0, c1, r0, r1, r2, r3⟩ := HC3.out
                    go_wp2_with fail
                    refine (calls_v (l01In_c t 0 99 _) (congrArg Value.bool E4.out)).mono ?_
                    rintro e v4 ⟨rfl, hq⟩
                    have HC4 := Lib.hid (HC3.out.keep hq.keep)
                    have Hq4 := Lib.hid (Hq3.out.trans (hq.below _))
                    clear hq
                    clear c0 c1 r0 r1 r2 r3
                    obtain ⟨c0, c1, r0, r1, r2, r3⟩ := HC4.out
                    go_wp2
                    go_ret
                    exact ⟨ret_bool HS2.out, Hbw.out.trans (Hq4.out.mono hz1)⟩
                  · skip
                    have hS2 : (rs.drop (k + 1)).all (resOk n) = R := by rw [← hS]; simp [resOk, e0, e1, e2, e3, e4]
                    have e2b : (h == a) = false := by simp [e2]
                    have HS2 := Lib.hid hS2
                    have E0 := Lib.hid e0
                    have E1 := Lib.hid e1
                    have E3 := Lib.hid e3
                    have E4 := Lib.hid e4
                    clear hS2 e0 e1 e3 e4
                    clear hS
                    clear e2
                    obtain ⟨c0, c1, r0, r1, r2, r3⟩ := HC0.out
                    go_wp2_with fail
                    refine (calls_v (l01In_c h 0 (n - 1) _) (congrArg Value.bool E0.out)).mono ?_
                    rintro e v1 ⟨rfl, hq⟩
                    have HC1 := Lib.hid (HC0.out.keep hq.keep)
                    have Hq1 := Lib.hid (Hq0.out.trans (hq.below _))
                    clear hq
                    clear c0 c1 r0 r1 r2 r3
                    obtain ⟨c0, c1, r0, r1, r2, r3⟩ := HC1.out
                    go_wp2_with fail
                    refine (calls_v (l01In_c a 0 (n - 1) _) (congrArg Value.bool E1.out)).mono ?_
                    rintro e v2 ⟨rfl, hq⟩
                    have HC2 := Lib.hid (HC1.out.keep hq.keep)
                    have Hq2 := Lib.hid (Hq1.out.trans (hq.below _))
                    clear hq
                    clear c0 c1 r0 r1 r2 r3
                    obtain ⟨c0, c1, r0, r1, r2, r3⟩ := HC2.out
                    go_wp2_with fail
                    refine (calls_v (l01In_c g 0 99 _) (congrArg Value.bool E3.out)).mono ?_
                    rintro e v3 ⟨rfl, hq⟩
                    have HC3 := Lib.hid (HC2.out.keep hq.keep)
                    have Hq3 := Lib.hid (Hq2.out.trans (hq.below _))
                    clear hq
                    clear c0 c1 r0 r1 r2 r3
                    obtain ⟨c0, c1, r0, r1, r2, r3⟩ := HC3.out
                    go_wp2_with fail
                    refine (calls_v (l01In_c t 0 99 _) (congrArg Value.bool E4.out)).mono ?_
                    rintro e v4 ⟨rfl, hq⟩
                    have HC4 := Lib.hid (HC3.out.keep hq.keep)
                    have Hq4 := Lib.hid (Hq3.out.trans (hq.below _))
                    clear hq
                    clear c0 c1 r0 r1 r2 r3
                    obtain ⟨c0, c1, r0, r1, r2, r3⟩ := HC4.out
                    go_wp2
                    go_roundw
                    case rel => exact ⟨k + 1, by omega, by go_num, HS2.out, Hq4.out⟩
                    case measure => simp [intOf]; omega
        · obtain rfl : k = m := by omega
          have hS2 : true = R := by rw [← hS, drop_end (l := rs) (by rw [Hn.out]; exact Nat.le_refl _)]; rfl
          have HS2 := Lib.hid hS2
          clear hS2
          clear hS
          go_wp2
          go_ret
          exact ⟨ret_bool HS2.out, Hbw.out.trans (Hd.out.mono hz1)⟩
    · have hR2 : false = R := by rw [← HR.out]; simp [leagueOk, e1, Hn.out, hl]
      have hli : (60 : Int) < (m : Int) := by omega
      have HR2 := Lib.hid hR2
      have E1 := Lib.hid e1
      clear hR2 e1
      clear HR
      go_enter Try.func48, Try.ntmps48
      go_wp2_with fail
      refine (calls_v (l01In_c n 2 8 _) (congrArg Value.bool E1.out)).mono ?_
      rintro e w1 ⟨rfl, hq⟩
      have c0 := hq.keep _ _ B0.out
      have c1 := hq.keep _ _ B1.out
      go_wp2
      go_ret
      exact ⟨ret_bool HR2.out, Hb1.out.trans (hq.below _)⟩

/-! ### Points -/
def ptsH (r : Res) : Int := if r.t < r.g then 3 else if r.g < r.t then 0 else 1
def ptsA (r : Res) : Int := if r.t < r.g then 0 else if r.g < r.t then 3 else 1
def outH (r : Res) : Int := if r.t < r.g then 2 else if r.g < r.t then 0 else 1
def outA (r : Res) : Int := if r.t < r.g then 0 else if r.g < r.t then 2 else 1
set_option maxHeartbeats 1000000 in
theorem l12Points_c (h a g t : Int) (w : World) : Calls Try.prog 49 #[.agg #[.int .i64 h, .int .i64 a, .int .i64 g, .int .i64 t]] w (Gives w (.tuple #[.int .i64 (ptsH ⟨h, a, g, t⟩), .int .i64 (ptsA ⟨h, a, g, t⟩)])) := by
  unfold ptsH ptsA
  simp only
  by_cases h1 : t < g
  · simp only [if_pos h1]
    go_enter Try.func49, Try.ntmps49
    go_wp2
    go_ret2
    exact ⟨rfl, (Below.refl _ _).alloc (Nat.le_refl _) _⟩
  · by_cases h2 : g < t
    · simp only [if_neg h1, if_pos h2]
      go_enter Try.func49, Try.ntmps49
      go_wp2
      go_ret2
      exact ⟨rfl, (Below.refl _ _).alloc (Nat.le_refl _) _⟩
    · simp only [if_neg h1, if_neg h2]
      go_enter Try.func49, Try.ntmps49
      go_wp2
      go_ret2
      exact ⟨rfl, (Below.refl _ _).alloc (Nat.le_refl _) _⟩
def cmpI (x y : Int) : Int := if x < y then -1 else if y < x then 1 else 0
theorem compare_c (x y : Int) (w : World) : Calls Try.prog 76 #[.int .i64 x, .int .i64 y] w (Quiet w (.int .i64 (cmpI x y))) := by
  unfold cmpI
  by_cases h1 : x < y
  · simp only [if_pos h1]
    go_enter Try.func76, Try.ntmps76
    go_wp2
    go_ret
    exact ⟨rfl, Dr.refl _⟩
  · by_cases h2 : y < x
    · simp only [if_neg h1, if_pos h2]
      go_enter Try.func76, Try.ntmps76
      go_wp2
      go_ret
      exact ⟨rfl, Dr.refl _⟩
    · simp only [if_neg h1, if_neg h2]
      go_enter Try.func76, Try.ntmps76
      go_wp2
      go_ret
      exact ⟨rfl, Dr.refl _⟩
end Go.Proofs.Ytehlijpjcjegcaa
