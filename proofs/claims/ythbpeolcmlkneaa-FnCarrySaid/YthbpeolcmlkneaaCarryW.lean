/- Contracts: how often one club follows another (program and reference). -/
import Derived.Test.YthbpeolcmlkneaaCarryV
namespace Go.Proofs.Ythbpeolcmlkneaa
open Go.RowKit

def followsOk (n : Int) (plan : List (List Int)) (a b : Int) : Bool := planOk n plan && decide (plan ≠ []) && inR a 0 (n - 1) && inR b 0 (n - 1)
def followsF (n : Int) (plan : List (List Int)) (a b : Int) : Int := if followsOk n plan a b = true then ((carryR plan n.toNat plan.length 0 (zeros n.toNat)).getD a.toNat []).getD b.toNat 0 else -1
theorem tab_at {m : Nat} {d : Int} {w : World} {ad : Addr} {t : List (List Int)} (ht : Tab m d t) (hr : Rows w (some ad) t) {a b : Nat} (ha : a < m) (hb : b < m) :
    ∃ g c, w.cell? (ad.add a) = some (.slice (some g) m c) ∧ w.cell? (g.add b) = some (.int .i64 ((t.getD a []).getD b 0)) := by
  obtain ⟨xs, hx⟩ := some_of (l := t) (k := a) (by rw [ht.len]; omega)
  obtain ⟨h1, h2⟩ := ht.row xs (List.mem_of_getElem? hx)
  obtain ⟨u, hu⟩ := some_of (l := xs) (k := b) (by omega)
  obtain ⟨ad', g, c, e, hl, _, hc, hi⟩ := hr a xs hx
  injection e with e; subst e
  obtain ⟨g, rfl, hg⟩ := hi b u hu
  exact ⟨g, c, by rw [← h1]; exact hc, by rw [show (t.getD a []).getD b 0 = u from by simp [hx, hu]]; exact hg⟩

set_option maxHeartbeats 2000000 in
theorem iFollowsIn_c (n : Int) (A : Option Addr) (c : Nat) (plan : List (List Int)) (a b : Int) (w : World) (ha : Rows w A plan) (hm : plan.length ≤ 1048576) :
    Calls Try.prog 22 #[.int .i64 n, .slice A plan.length c, .int .i64 a, .int .i64 b] w (Gives w (.int .i64 (followsF n plan a b))) := by
  generalize hR : followsF n plan a b = R
  have HR := Lib.hid hR
  clear hR
  have hnil := fun (W : World) (a : Option Addr) (n c : Nat) => Lib.run_eql_slice_nil (P := Try.prog) W 22 38 a n c 0 0 Try.underlying22
  have Ha := Lib.hid ha
  clear ha
  by_cases h : planOk n plan = true ∧ plan ≠ []
  · obtain ⟨h1, h2⟩ := h
    have hP := plan_of h1
    obtain ⟨m, rfl⟩ := Int.eq_ofNat_of_zero_le (show 0 ≤ n by have := hP.two; omega)
    have hm10 : m ≤ 10 := by have := hP.ten; omega
    have hm2 : 2 ≤ m := by have := hP.two; omega
    have hT := carry_tab h1
    have hct := iCarryTable_t m A c plan w Ha.out hm h1 h2
    cases ia : inR a 0 ((m : Int) - 1)
    · have hR2 : (-1 : Int) = R := by rw [← HR.out, followsF, followsOk, ia]; simp
      have H1 := Lib.hid h1
      have H2 := Lib.hid h2
      have HP := Lib.hid hP
      have HT := Lib.hid hT
      have Hct := Lib.hid hct
      have Ia := Lib.hid ia
      have HR2 := Lib.hid hR2
      clear h1 h2 hP hT hct ia hR2
      clear HR
      go_enter Try.func22, Try.ntmps22
      go_wp2_with fail
      refine (Hct.out).mono ?_
      rintro e w1 ⟨ad, c1, rfl, hr1, hb1⟩
      have Hr1 := Lib.hid hr1
      have Hb1 := Lib.hid hb1
      clear hr1 hb1
      go_wp2_with fail
      refine (calls_v (within_c a 0 ((m : Int) - 1) _) (congrArg Value.bool Ia.out)).mono ?_
      rintro e w2 ⟨rfl, hq⟩
      go_wp2
      go_ret
      exact ⟨ret_int HR2.out, Hb1.out.trans (hq.below _)⟩
    · cases ib : inR b 0 ((m : Int) - 1)
      · have hR2 : (-1 : Int) = R := by rw [← HR.out, followsF, followsOk, ib]; simp
        have H1 := Lib.hid h1
        have H2 := Lib.hid h2
        have HP := Lib.hid hP
        have HT := Lib.hid hT
        have Hct := Lib.hid hct
        have Ia := Lib.hid ia
        have Ib := Lib.hid ib
        have HR2 := Lib.hid hR2
        clear h1 h2 hP hT hct ia ib hR2
        clear HR
        go_enter Try.func22, Try.ntmps22
        go_wp2_with fail
        refine (Hct.out).mono ?_
        rintro e w1 ⟨ad, c1, rfl, hr1, hb1⟩
        have Hr1 := Lib.hid hr1
        have Hb1 := Lib.hid hb1
        clear hr1 hb1
        go_wp2_with fail
        refine (calls_v (within_c a 0 ((m : Int) - 1) _) (congrArg Value.bool Ia.out)).mono ?_
        rintro e w2 ⟨rfl, hq⟩
        have Hq := Lib.hid hq
        clear hq
        go_wp2_with fail
        refine (calls_v (within_c b 0 ((m : Int) - 1) _) (congrArg Value.bool Ib.out)).mono ?_
        rintro e w3 ⟨rfl, hq2⟩
        go_wp2
        go_ret
        exact ⟨ret_int HR2.out, (Hb1.out.trans (Hq.out.below _)).trans (hq2.below _)⟩
      · have ra := inR_true ia
        have rb := inR_true ib
        obtain ⟨a, rfl⟩ := Int.eq_ofNat_of_zero_le ra.1
        obtain ⟨b, rfl⟩ := Int.eq_ofNat_of_zero_le rb.1
        have ham : a < m := by omega
        have hbm : b < m := by omega
        have hami : (a : Int) < (m : Int) := by omega
        have hbmi : (b : Int) < (m : Int) := by omega
        obtain ⟨t, ht⟩ : ∃ t, carryR plan m plan.length 0 (zeros m) = t := ⟨_, rfl⟩
        rw [ht] at hct hT
        have hR2 : (t.getD a []).getD b 0 = R := by rw [← HR.out, followsF, followsOk, ia, ib, h1, if_pos (by simp [h2]), Int.toNat_natCast, Int.toNat_natCast, Int.toNat_natCast, ht]
        clear ra rb
        have H1 := Lib.hid h1
        have H2 := Lib.hid h2
        have HP := Lib.hid hP
        have HT := Lib.hid hT
        have Hct := Lib.hid hct
        have Ia := Lib.hid ia
        have Ib := Lib.hid ib
        have HR2 := Lib.hid hR2
        have Ht := Lib.hid ht
        clear h1 h2 hP hT hct ia ib hR2 ht
        clear HR
        go_enter Try.func22, Try.ntmps22
        go_wp2_with fail
        refine (Hct.out).mono ?_
        rintro e w1 ⟨ad, c1, rfl, hr1, hb1⟩
        obtain ⟨g, gc, hg1, hg2⟩ := tab_at HT.out hr1 ham hbm
        rw [HR2.out] at hg2
        have Hr1 := Lib.hid hr1
        have Hb1 := Lib.hid hb1
        have Hg1 := Lib.hid hg1
        have Hg2 := Lib.hid hg2
        clear hr1 hb1 hg1 hg2
        go_wp2_with fail
        refine (calls_v (within_c a 0 ((m : Int) - 1) _) (congrArg Value.bool Ia.out)).mono ?_
        rintro e w2 ⟨rfl, hq⟩
        have Hq := Lib.hid hq
        clear hq
        go_wp2_with fail
        refine (calls_v (within_c b 0 ((m : Int) - 1) _) (congrArg Value.bool Ib.out)).mono ?_
        rintro e w3 ⟨rfl, hq2⟩
        have hk := Hq.out.keep.trans hq2.keep
        have hg1 := hk _ _ Hg1.out
        have hg2 := hk _ _ Hg2.out
        clear hk
        go_wp2
        go_ret
        exact ⟨rfl, (Hb1.out.trans (Hq.out.below _)).trans (hq2.below _)⟩
  · have hR2 : (-1 : Int) = R := by rw [← HR.out, followsF, if_neg (fun e => h (by simp only [followsOk, Bool.and_eq_true, decide_eq_true_eq] at e; exact e.1.1))]
    have hct := iCarryTable_no n A c plan w Ha.out hm h
    have Hct := Lib.hid hct
    have HR2 := Lib.hid hR2
    clear hct hR2
    clear h
    go_enter Try.func22, Try.ntmps22
    go_wp2_with fail
    refine (Hct.out).mono ?_
    rintro e w1 ⟨rfl, hb1⟩
    go_wp2
    go_ret
    exact ⟨ret_int HR2.out, hb1⟩

set_option maxHeartbeats 2000000 in
theorem sFollowsIn_c (n : Int) (A : Option Addr) (c : Nat) (plan : List (List Int)) (a b : Int) (w : World) (ha : Rows w A plan) (hm : plan.length ≤ 1048576) :
    Calls Try.prog 21 #[.int .i64 n, .slice A plan.length c, .int .i64 a, .int .i64 b] w (Gives w (.int .i64 (followsF n plan a b))) := by
  generalize hR : followsF n plan a b = R
  have HR := Lib.hid hR
  clear hR
  have Ha := Lib.hid ha
  clear ha
  by_cases h : planOk n plan = true ∧ plan ≠ []
  · obtain ⟨h1, h2⟩ := h
    have hP := plan_of h1
    obtain ⟨m, rfl⟩ := Int.eq_ofNat_of_zero_le (show 0 ≤ n by have := hP.two; omega)
    have hm10 : m ≤ 10 := by have := hP.ten; omega
    have hm2 : 2 ≤ m := by have := hP.two; omega
    have hpos : 1 ≤ plan.length := List.length_pos_iff.2 h2
    have hl36 := hP.len
    have hlz : ((plan.length : Int) == 0) = false := by rw [beq_eq_false_iff_ne]; omega
    have hlz2 : ¬ plan.length = 0 := by omega
    have hlz3 : ¬ plan = [] := h2
    have hT := carry_tab h1
    cases ia : inR a 0 ((m : Int) - 1)
    · have hR2 : (-1 : Int) = R := by rw [← HR.out, followsF, followsOk, ia]; simp
      have H1 := Lib.hid h1
      have H2 := Lib.hid h2
      have HP := Lib.hid hP
      have HT := Lib.hid hT
      have Ia := Lib.hid ia
      have HR2 := Lib.hid hR2
      clear h1 h2 hP hT ia hR2
      clear HR
      go_enter Try.func21, Try.ntmps21
      go_wp2_with fail
      refine (calls_v (sPlanOk_c _ _ _ _ _ Ha.out hm) (congrArg Value.bool H1.out)).mono ?_
      rintro e w1 ⟨rfl, hq⟩
      have Hq := Lib.hid hq
      clear hq
      go_wp2_with fail
      refine (calls_v (l01In_c a 0 ((m : Int) - 1) _) (congrArg Value.bool Ia.out)).mono ?_
      rintro e w2 ⟨rfl, hq2⟩
      go_wp2
      go_ret
      exact ⟨ret_int HR2.out, (Hq.out.below _).trans (hq2.below _)⟩
    · cases ib : inR b 0 ((m : Int) - 1)
      · have hR2 : (-1 : Int) = R := by rw [← HR.out, followsF, followsOk, ib]; simp
        have H1 := Lib.hid h1
        have H2 := Lib.hid h2
        have HP := Lib.hid hP
        have HT := Lib.hid hT
        have Ia := Lib.hid ia
        have Ib := Lib.hid ib
        have HR2 := Lib.hid hR2
        clear h1 h2 hP hT ia ib hR2
        clear HR
        go_enter Try.func21, Try.ntmps21
        go_wp2_with fail
        refine (calls_v (sPlanOk_c _ _ _ _ _ Ha.out hm) (congrArg Value.bool H1.out)).mono ?_
        rintro e w1 ⟨rfl, hq⟩
        have Hq := Lib.hid hq
        clear hq
        go_wp2_with fail
        refine (calls_v (l01In_c a 0 ((m : Int) - 1) _) (congrArg Value.bool Ia.out)).mono ?_
        rintro e w2 ⟨rfl, hq2⟩
        have Hq2 := Lib.hid hq2
        clear hq2
        go_wp2_with fail
        refine (calls_v (l01In_c b 0 ((m : Int) - 1) _) (congrArg Value.bool Ib.out)).mono ?_
        rintro e w3 ⟨rfl, hq3⟩
        go_wp2
        go_ret
        exact ⟨ret_int HR2.out, ((Hq.out.below _).trans (Hq2.out.below _)).trans (hq3.below _)⟩
      · have ra := inR_true ia
        have rb := inR_true ib
        obtain ⟨a, rfl⟩ := Int.eq_ofNat_of_zero_le ra.1
        obtain ⟨b, rfl⟩ := Int.eq_ofNat_of_zero_le rb.1
        have ham : a < m := by omega
        have hbm : b < m := by omega
        have hami : (a : Int) < (m : Int) := by omega
        have hbmi : (b : Int) < (m : Int) := by omega
        obtain ⟨t, ht⟩ : ∃ t, carryR plan m plan.length 0 (zeros m) = t := ⟨_, rfl⟩
        rw [ht] at hT
        have hR2 : (t.getD a []).getD b 0 = R := by rw [← HR.out, followsF, followsOk, ia, ib, h1, if_pos (by simp [h2]), Int.toNat_natCast, Int.toNat_natCast, Int.toNat_natCast, ht]
        clear ra rb
        have H1 := Lib.hid h1
        have H2 := Lib.hid h2
        have HP := Lib.hid hP
        have HT := Lib.hid hT
        have Ia := Lib.hid ia
        have Ib := Lib.hid ib
        have HR2 := Lib.hid hR2
        have Ht := Lib.hid ht
        clear h1 h2 hP hT ia ib hR2 ht
        clear HR
        go_enter Try.func21, Try.ntmps21
        go_wp2_with fail
        refine (calls_v (sPlanOk_c _ _ _ _ _ Ha.out hm) (congrArg Value.bool H1.out)).mono ?_
        rintro e w1 ⟨rfl, hq⟩
        have Hq := Lib.hid hq
        clear hq
        go_wp2_with fail
        refine (calls_v (l01In_c a 0 ((m : Int) - 1) _) (congrArg Value.bool Ia.out)).mono ?_
        rintro e w2 ⟨rfl, hq2⟩
        have Hq2 := Lib.hid hq2
        clear hq2
        go_wp2_with fail
        refine (calls_v (l01In_c b 0 ((m : Int) - 1) _) (congrArg Value.bool Ib.out)).mono ?_
        rintro e w3 ⟨rfl, hq3⟩
        have Hq3 := Lib.hid ((Hq.out.trans Hq2.out).trans hq3)
        clear hq3
        go_wp2_with fail
        refine (l18Table_t m A c plan _ (Ha.out.keep Hq3.out.keep) H1.out H2.out).mono ?_
        rintro e w4 ⟨ad, c1, rfl, hr1, hb1⟩
        rw [Ht.out] at hr1
        obtain ⟨g, gc, hg1, hg2⟩ := tab_at HT.out hr1 ham hbm
        rw [HR2.out] at hg2
        have hb1 := (Hq3.out.below w.heap.size).trans (hb1.mono (Hq3.out.below 0).size)
        have Hr1 := Lib.hid hr1
        have Hb1 := Lib.hid hb1
        clear hr1 hb1
        go_wp2
        go_ret
        exact ⟨rfl, Hb1.out⟩
  · have hR2 : (-1 : Int) = R := by rw [← HR.out, followsF, if_neg (fun e => h (by simp only [followsOk, Bool.and_eq_true, decide_eq_true_eq] at e; exact e.1.1))]
    have HR2 := Lib.hid hR2
    clear hR2
    cases h1 : planOk n plan
    · have H1 := Lib.hid h1
      clear h1
      clear h
      go_enter Try.func21, Try.ntmps21
      go_wp2_with fail
      refine (calls_v (sPlanOk_c _ _ _ _ _ Ha.out hm) (congrArg Value.bool H1.out)).mono ?_
      rintro e w1 ⟨rfl, hq⟩
      go_wp2
      go_ret
      exact ⟨ret_int HR2.out, hq.below _⟩
    · obtain rfl : plan = [] := Classical.byContradiction fun e => h ⟨h1, e⟩
      have H1 := Lib.hid h1
      clear h1
      clear h
      go_enter Try.func21, Try.ntmps21
      go_wp2_with fail
      refine (calls_v (sPlanOk_c _ _ _ _ _ Ha.out hm) (congrArg Value.bool H1.out)).mono ?_
      rintro e w1 ⟨rfl, hq⟩
      go_wp2
      go_ret
      exact ⟨ret_int HR2.out, hq.below _⟩
end Go.Proofs.Ythbpeolcmlkneaa
