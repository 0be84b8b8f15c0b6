/- Contracts: the club that is first alone in all endings of a last day (program and reference). -/
import Derived.Test.YteigcfcabmoghaaDayH
namespace Go.Proofs.Yteigcfcabmoghaa
open Go.RowKit

def decFrom (P : Nat → Bool) : Nat → Nat → Int
  | 0, _ => -1
  | f + 1, k => if P k = true then (k : Int) else decFrom P f (k + 1)
theorem decFrom_no (P : Nat → Bool) : ∀ (f k : Nat), (∀ j, P j = false) → decFrom P f k = -1
  | 0, _, _ => rfl
  | f + 1, k, h => by rw [decFrom, if_neg (by rw [h]; decide), decFrom_no P f (k + 1) h]
def decidedF (pts : List Int) (games : List (List Int)) : Int := if dayOk pts games = true then decFrom (fun k => decide (aloneF pts games k = countF pts games)) pts.length 0 else -1

set_option maxHeartbeats 2000000 in
theorem iDecidedBy_c (A B : Option Addr) (c d : Nat) (points : List Int) (games : List (List Int)) (w : World) (ha : Ints w A points) (hb : Rows w B games) (hm : points.length ≤ 1048576) :
    Calls Try.prog 38 #[.slice A points.length c, .slice B games.length d] w (Gives w (.int .i64 (decidedF points games))) := by
  generalize hR : decidedF points games = R
  have HR := Lib.hid hR
  clear hR
  have Ha := Lib.hid ha
  have Hb := Lib.hid hb
  clear ha hb
  cases h1 : dayOk points games
  · have HS : Hid (-1 = R) := Lib.hid (by rw [← HR.out]; simp [decidedF, h1])
    have HC : Hid (countF points games = -1) := Lib.hid (by simp [countF, h1])
    have H1 := Lib.hid h1
    clear h1
    go_enter Try.func38, Try.ntmps38
    go_wp2
    go_loopw [9] (fun i wr => ∃ j : Nat, j ≤ points.length ∧ i = .int .i64 j ∧ Below w.heap.size w wr) (fun i _ => points.length - (intOf i).toNat)
    case atStart => exact ⟨0, Nat.zero_le _, rfl, Below.refl _ _⟩
    case round =>
      obtain ⟨j, hj, rfl, hdn⟩ := hrel
      have Hdn := Lib.hid hdn
      clear hdn
      by_cases hlt : j < points.length
      · have hca := gives_v (iCountEndings_c A B c d points games wr (Ha.out.keep (keep_of_below Hdn.out)) (Hb.out.keep (keep_of_below Hdn.out)) hm) (congrArg (Value.int .i64) HC.out)
        have Hca := Lib.hid hca
        clear hca
        go_wp2_with fail
        refine (Hca.out).mono ?_
        rintro e w1 ⟨rfl, hb1⟩
        have Hdn1 := Lib.hid (Hdn.out.trans (hb1.mono Hdn.out.size))
        clear hb1
        go_wp2
        go_roundw
        case rel => exact ⟨j + 1, by omega, by go_num, Hdn1.out⟩
        case measure => simp [intOf]; omega
      · obtain rfl : j = points.length := by omega
        go_wp2
        go_ret
        exact ⟨ret_int HS.out, Hdn.out⟩
  · have hC0 : 0 < countF points games := by rw [countF, if_pos h1]; exact Int.natCast_pos.2 (Nat.pow_pos (by decide))
    obtain ⟨C, hC⟩ : ∃ C, countF points games = C := ⟨_, rfl⟩
    have HS : Hid (decFrom (fun k => decide (aloneF points games k = C)) points.length 0 = R) := Lib.hid (by rw [← HR.out, ← hC]; simp [decidedF, h1])
    rw [hC] at hC0
    have H1 := Lib.hid h1
    have HC := Lib.hid hC
    clear h1 hC
    go_enter Try.func38, Try.ntmps38
    go_wp2
    go_loopw [9] (fun i wr => ∃ j f : Nat, j + f = points.length ∧ i = .int .i64 j ∧ decFrom (fun k => decide (aloneF points games k = C)) f j = R ∧ Below w.heap.size w wr) (fun i _ => points.length - (intOf i).toNat)
    case atStart => exact ⟨0, points.length, by omega, rfl, HS.out, Below.refl _ _⟩
    case round =>
      obtain ⟨j, f, hj, rfl, hS, hdn⟩ := hrel
      have HS := Lib.hid hS
      have Hdn := Lib.hid hdn
      clear hS hdn
      by_cases hlt : j < points.length
      · obtain ⟨f, rfl⟩ : ∃ f', f = f' + 1 := ⟨f - 1, by omega⟩
        have hca := gives_v (iCountEndings_c A B c d points games wr (Ha.out.keep (keep_of_below Hdn.out)) (Hb.out.keep (keep_of_below Hdn.out)) hm) (congrArg (Value.int .i64) HC.out)
        obtain ⟨q, hq⟩ : ∃ q, aloneF points games j = q := ⟨_, rfl⟩
        have HS1 : Hid ((if q = C then (j : Int) else decFrom (fun k => decide (aloneF points games k = C)) f (j + 1)) = R) := Lib.hid (by have := HS.out; simpa [decFrom, hq] using this)
        have Hca := Lib.hid hca
        have Hq := Lib.hid hq
        clear hca hq
        go_wp2_with fail
        refine (Hca.out).mono ?_
        rintro e w1 ⟨rfl, hb1⟩
        have Hdn1 := Lib.hid (Hdn.out.trans (hb1.mono Hdn.out.size))
        clear hb1
        have hcb := gives_v (iCountAlone_c A B c d points games j w1 (Ha.out.keep (keep_of_below Hdn1.out)) (Hb.out.keep (keep_of_below Hdn1.out)) hm) (congrArg (Value.int .i64) Hq.out)
        have Hcb := Lib.hid hcb
        clear hcb
        by_cases hqc : q = C
        · have hqc' : (q == C) = true := by simpa using hqc
          have HS2 : Hid ((j : Int) = R) := Lib.hid (by have := HS1.out; rwa [if_pos hqc] at this)
          have Hqc := Lib.hid hqc
          clear hqc
          go_wp2_with fail
          refine (Hcb.out).mono ?_
          rintro e w2 ⟨rfl, hb2⟩
          go_wp2
          go_ret
          exact ⟨ret_int HS2.out, Hdn1.out.trans (hb2.mono Hdn1.out.size)⟩
        · have hqc' : (q == C) = false := by simpa using hqc
          have HS2 : Hid (decFrom (fun k => decide (aloneF points games k = C)) f (j + 1) = R) := Lib.hid (by have := HS1.out; rwa [if_neg hqc] at this)
          have Hqc := Lib.hid hqc
          clear hqc
          go_wp2_with fail
          refine (Hcb.out).mono ?_
          rintro e w2 ⟨rfl, hb2⟩
          have Hdn2 := Lib.hid (Hdn1.out.trans (hb2.mono Hdn1.out.size))
          clear hb2
          go_wp2
          go_roundw
          case rel => exact ⟨j + 1, f, by omega, by go_num, HS2.out, Hdn2.out⟩
          case measure => simp [intOf]; omega
      · obtain rfl : f = 0 := by omega
        have HS1 : Hid (-1 = R) := Lib.hid (by have := HS.out; rwa [decFrom] at this)
        go_wp2
        go_ret
        exact ⟨ret_int HS1.out, Hdn.out⟩

set_option maxHeartbeats 2000000 in
theorem sDecidedBy_c (A B : Option Addr) (c d : Nat) (points : List Int) (games : List (List Int)) (w : World) (ha : Ints w A points) (hb : Rows w B games) (hm : points.length ≤ 1048576) :
    Calls Try.prog 37 #[.slice A points.length c, .slice B games.length d] w (Gives w (.int .i64 (decidedF points games))) := by
  generalize hR : decidedF points games = R
  have HR := Lib.hid hR
  clear hR
  have Ha := Lib.hid ha
  have Hb := Lib.hid hb
  clear ha hb
  cases h1 : dayOk points games
  · have HS : Hid (-1 = R) := Lib.hid (by rw [← HR.out]; simp [decidedF, h1])
    have H1 := Lib.hid h1
    clear h1
    go_enter Try.func37, Try.ntmps37
    go_wp2_with fail
    refine (calls_v (sDayOk_c _ _ _ _ _ _ _ Ha.out Hb.out hm) (congrArg Value.bool H1.out)).mono ?_
    rintro e w1 ⟨rfl, hb1⟩
    go_wp2
    go_ret
    exact ⟨ret_int HS.out, hb1.below _⟩
  · obtain ⟨C, hC⟩ : ∃ C, 3 ^ games.length = C := ⟨_, rfl⟩
    have hCC : countF points games = (C : Int) := by rw [countF, if_pos h1, hC]
    have HS : Hid (decFrom (fun k => decide (aloneF points games k = (C : Int))) points.length 0 = R) := Lib.hid (by rw [← HR.out, ← hCC]; simp [decidedF, h1])
    have hfew := (day_of h1).1.few
    have H1 := Lib.hid h1
    have HC := Lib.hid hC
    have HCC := Lib.hid hCC
    clear h1 hC hCC
    go_enter Try.func37, Try.ntmps37
    go_wp2_with fail
    refine (calls_v (sDayOk_c _ _ _ _ _ _ _ Ha.out Hb.out hm) (congrArg Value.bool H1.out)).mono ?_
    rintro e w1 ⟨rfl, hb1⟩
    have Hb1 := Lib.hid (hb1.below w.heap.size)
    clear hb1
    go_wp2
    go_loopw [12] (fun i wr => ∃ j f : Nat, j + f = points.length ∧ i = .int .i64 j ∧ decFrom (fun k => decide (aloneF points games k = (C : Int))) f j = R ∧ Below w.heap.size w wr) (fun i _ => points.length - (intOf i).toNat)
    case atStart => exact ⟨0, points.length, by omega, rfl, HS.out, Hb1.out⟩
    case round =>
      obtain ⟨j, f, hj, rfl, hS, hdn⟩ := hrel
      have HS := Lib.hid hS
      have Hdn := Lib.hid hdn
      clear hS hdn
      by_cases hlt : j < points.length
      · obtain ⟨f, rfl⟩ : ∃ f', f = f' + 1 := ⟨f - 1, by omega⟩
        obtain ⟨q, hq⟩ : ∃ q, aloneF points games j = q := ⟨_, rfl⟩
        have HS1 : Hid ((if q = (C : Int) then (j : Int) else decFrom (fun k => decide (aloneF points games k = (C : Int))) f (j + 1)) = R) := Lib.hid (by have := HS.out; simpa [decFrom, hq] using this)
        have hcb := gives_v (sCountAlone_c A B c d points games j wr (Ha.out.keep (keep_of_below Hdn.out)) (Hb.out.keep (keep_of_below Hdn.out)) hm) (congrArg (Value.int .i64) hq)
        have Hcb := Lib.hid hcb
        have Hq := Lib.hid hq
        clear hcb hq
        go_wp2_with fail
        refine (Hcb.out).mono ?_
        rintro e w2 ⟨rfl, hb2⟩
        have Hdn2 := Lib.hid (Hdn.out.trans (hb2.mono Hdn.out.size))
        clear hb2
        have hcc := calls_v (l15Count_c games.length w2 hfew) (congrArg (fun x : Nat => Value.int .i64 x) HC.out)
        have Hcc := Lib.hid hcc
        clear hcc
        by_cases hqc : q = (C : Int)
        · have hqc' : (q == (C : Int)) = true := by simpa using hqc
          have HS2 : Hid ((j : Int) = R) := Lib.hid (by have := HS1.out; rwa [if_pos hqc] at this)
          have Hqc := Lib.hid hqc
          clear hqc
          go_wp2_with fail
          refine (Hcc.out).mono ?_
          rintro e w3 ⟨rfl, hq3⟩
          go_wp2
          go_ret
          exact ⟨ret_int HS2.out, below_dr Hdn2.out hq3⟩
        · have hqc' : (q == (C : Int)) = false := by simpa using hqc
          have HS2 : Hid (decFrom (fun k => decide (aloneF points games k = (C : Int))) f (j + 1) = R) := Lib.hid (by have := HS1.out; rwa [if_neg hqc] at this)
          have Hqc := Lib.hid hqc
          clear hqc
          go_wp2_with fail
          refine (Hcc.out).mono ?_
          rintro e w3 ⟨rfl, hq3⟩
          have Hdn3 := Lib.hid (below_dr Hdn2.out hq3)
          clear hq3
          go_wp2
          go_roundw
          case rel => exact ⟨j + 1, f, by omega, by go_num, HS2.out, Hdn3.out⟩
          case measure => simp [intOf]; omega
      · obtain rfl : f = 0 := by omega
        have HS1 : Hid (-1 = R) := Lib.hid (by have := HS.out; rwa [decFrom] at this)
        go_wp2
        go_ret
        exact ⟨ret_int HS1.out, Hdn.out⟩
end Go.Proofs.Yteigcfcabmoghaa
