/- All that the law on ties wants of a league, in plain Lean. No program in sight. -/
import Derived.Test.YtehlijpjcjegcaaTiesE
import Derived.Test.YtehlijpjcjegcaaMakeLg
namespace Go.Proofs.Ytehlijpjcjegcaa
set_option linter.unusedVariables false
set_option linter.unusedSimpArgs false
open Go.RowKit

theorem sumAt_const (c : Int) : ∀ rs : List Res, sumAt (fun _ => c) rs = c * (rs.length : Int)
  | [] => by simp [sumAt]
  | r :: t => by
    rw [sumAt, sumAt_const c t, List.length_cons, Int.natCast_add, Int.mul_add]; omega
theorem at2_le {r : Res} {k : Nat} {x y c : Int} (hc : 0 ≤ c) (hx : x ≤ c) (hy : y ≤ c) : at2 r k x y ≤ c := by
  unfold at2; split <;> (try split) <;> omega
theorem gam_le (k : Nat) (rs : List Res) : gam k rs ≤ rs.length := by
  have := sumAt_le (f := fun r => at2 r k 1 1) (g := fun _ => 1) rs (fun r _ => at2_le (by decide) (by decide) (by decide))
  rw [sumAt_const] at this
  rw [gam]; omega
theorem opp_bd {n : Nat} {rs : List Res} (hok : leagueOk n rs = true) (hm : rs.length ≤ 11) (k : Nat) : (sumsF fOpp n rs).getD k 0 ≤ 1980 := by
  rw [sums_at hok]
  have hP := fun i => (points_bd (league_of hok) i).2
  refine Int.le_trans (sumAt_le (g := fun _ => 180) rs (fun r _ => at2_le (by decide) (hP _) (hP _))) ?_
  rw [sumAt_const]; omega
theorem sumFold_length (f : Res → Int → Int → Int) (P : List Int) : ∀ (rs : List Res) (l : List Int), (sumFold f P l rs).length = l.length
  | [], _ => rfl
  | r :: t, l => by rw [sumFold, sumFold_length f P t, sumStep, bump1_len, bump1_len]
theorem proFold_length : ∀ (rs : List Res) (pl ol : List Int), (proFold pl ol rs).length = ol.length
  | [], _, _ => rfl
  | r :: t, pl, ol => by rw [proFold, proFold_length t, bump1_len, bump1_len]
theorem sums_length {n : Nat} {rs : List Res} (hok : leagueOk n rs = true) (f : Res → Int → Int → Int) : (sumsF f n rs).length = n := by
  rw [sumsF, if_pos hok, sumFold_length, List.length_replicate, Int.toNat_natCast]
theorem prog_length {n : Nat} {rs : List Res} (hok : leagueOk n rs = true) : (progF n rs).length = n := by
  rw [progF, if_pos hok, proFold_length, List.length_replicate, Int.toNat_natCast]
theorem med_length {n : Nat} {rs : List Res} (hok : leagueOk n rs = true) : (medF n rs).length = n := by
  rw [medF, if_pos hok, List.length_map, List.length_range, Int.toNat_natCast]
/-- The clubs seen. -/
def seenN (l : List Nat) : Nat := (l.map (fun a => 2 ^ a)).sum
def seenB (x a k : Nat) : Bool := x / 2 ^ a % 2 == 1 || (decide (x + 2 ^ a < 64) && ((x + 2 ^ a) / 2 ^ k % 2 == 1) == (x / 2 ^ k % 2 == 1 || k == a))
theorem seen_all : ((List.range 64).all fun x => (List.range 6).all fun a => (List.range 6).all fun k => seenB x a k) = true := by decide +kernel
theorem seen_bit (x : Nat) (hx : x < 64) (a : Nat) (ha : a < 6) (hz : x / 2 ^ a % 2 ≠ 1) : x + 2 ^ a < 64 ∧ ∀ k, k < 6 → ((x + 2 ^ a) / 2 ^ k % 2 = 1 ↔ x / 2 ^ k % 2 = 1 ∨ k = a) := by
  have h : ∀ k, k < 6 → x + 2 ^ a < 64 ∧ ((x + 2 ^ a) / 2 ^ k % 2 = 1 ↔ x / 2 ^ k % 2 = 1 ∨ k = a) := fun k hk => by
    have h := seen_all
    rw [List.all_eq_true] at h
    have h1 := h x (List.mem_range.2 hx)
    rw [List.all_eq_true] at h1
    have h2 := h1 a (List.mem_range.2 ha)
    rw [List.all_eq_true] at h2
    have h3 := h2 k (List.mem_range.2 hk)
    rw [seenB, Bool.or_eq_true, beq_iff_eq, Bool.and_eq_true, decide_eq_true_eq, beq_iff_eq] at h3
    rcases h3 with h3 | ⟨h3, h4⟩
    · exact absurd h3 hz
    · refine ⟨h3, ?_⟩
      rw [Bool.eq_iff_iff, Bool.or_eq_true, beq_iff_eq, beq_iff_eq, beq_iff_eq] at h4
      exact h4
  exact ⟨(h 0 (by decide)).1, fun k hk => (h k hk).2⟩
theorem seen_take {F : List Nat} (hn : F.Nodup) (h6 : ∀ a ∈ F, a < 6) : ∀ i, i ≤ F.length → seenN (F.take i) < 64 ∧ ∀ k, k < 6 → (seenN (F.take i) / 2 ^ k % 2 = 1 ↔ k ∈ F.take i)
  | 0, _ => by
    refine ⟨by simp [seenN], fun k _ => ?_⟩
    simp [seenN]
  | i + 1, h => by
    obtain ⟨a, ha⟩ := some_of (l := F) (k := i) (by omega)
    obtain ⟨i1, i2⟩ := seen_take hn h6 i (by omega)
    have ha6 := h6 a (List.mem_of_getElem? ha)
    have hna : a ∉ F.take i := fun hm => by
      obtain ⟨j, hj⟩ := List.getElem?_of_mem hm
      have hji := lt_of hj
      rw [List.length_take] at hji
      rw [List.getElem?_take, if_pos (by omega)] at hj
      have := (List.getElem?_inj (by omega) hn).1 (hj.trans ha.symm)
      omega
    obtain ⟨s1, s2⟩ := seen_bit _ i1 a ha6 (fun e => hna ((i2 a ha6).1 e))
    have e : seenN (F.take (i + 1)) = seenN (F.take i) + 2 ^ a := by rw [take_of ha, seenN, seenN, List.map_append, List.sum_append]; simp
    rw [e]
    refine ⟨s1, fun k hk => ?_⟩
    rw [s2 k hk, i2 k hk, take_of ha, List.mem_append, List.mem_singleton]
theorem seen_step {F : List Nat} (hn : F.Nodup) (h6 : ∀ a ∈ F, a < 6) {i a : Nat} (ha : F[i]? = some a) :
    seenN (F.take i) < 64 ∧ seenN (F.take i) / 2 ^ a % 2 = 0 ∧ seenN (F.take (i + 1)) = seenN (F.take i) + 2 ^ a := by
  have hi := lt_of ha
  obtain ⟨h1, h2⟩ := seen_take hn h6 i (by omega)
  have ha6 := h6 a (List.mem_of_getElem? ha)
  have hna : a ∉ F.take i := fun hm => by
    obtain ⟨j, hj⟩ := List.getElem?_of_mem hm
    have hji := lt_of hj
    rw [List.length_take] at hji
    rw [List.getElem?_take, if_pos (by omega)] at hj
    have := (List.getElem?_inj (by omega) hn).1 (hj.trans ha.symm)
    omega
  refine ⟨h1, ?_, by rw [take_of ha, seenN, seenN, List.map_append, List.sum_append]; simp⟩
  have := mt (h2 a ha6).1 hna
  omega
/-- Points times games, of the first clubs of the table. -/
def totN (P : List Int) (gm : Nat → Int) (l : List Nat) : Int := (l.map (fun k => P.getD k 0 * gm k)).sum
theorem tot_step {P : List Int} {gm : Nat → Int} {F : List Nat} {i a : Nat} (ha : F[i]? = some a) : totN P gm (F.take (i + 1)) = totN P gm (F.take i) + P.getD a 0 * gm a := by
  rw [take_of ha, totN, totN, List.map_append, List.sum_append]; simp
theorem tot_bd {P : List Int} {gm : Nat → Int} (hP : ∀ k, 0 ≤ P.getD k 0 ∧ P.getD k 0 ≤ 180) (hg : ∀ k, 0 ≤ gm k ∧ gm k ≤ 11) : ∀ l : List Nat, 0 ≤ totN P gm l ∧ totN P gm l ≤ 1980 * (l.length : Int)
  | [] => by simp [totN]
  | a :: t => by
    obtain ⟨h1, h2⟩ := tot_bd hP hg t
    have e : totN P gm (a :: t) = P.getD a 0 * gm a + totN P gm t := by simp [totN]
    obtain ⟨p0, p1⟩ := hP a
    obtain ⟨g0, g1⟩ := hg a
    have m0 : 0 ≤ P.getD a 0 * gm a := Int.mul_nonneg p0 g0
    have m1 : P.getD a 0 * gm a ≤ 180 * 11 := Int.mul_le_mul p1 g1 g0 (by decide)
    rw [e, List.length_cons, Int.natCast_add, Int.mul_add]
    omega

structure Tie (n : Nat) (P : List Int) (F : List Nat) (O W G M : List Int) (gm : Nat → Int) : Prop where
  lp : P.length = n
  lf : F.length = n
  lo : O.length = n
  lw : W.length = n
  lg : G.length = n
  lm : M.length = n
  fn : ∀ a ∈ F, a < n
  fnd : F.Nodup
  fs : ∀ i a b : Nat, F[i]? = some b → F[i + 1]? = some a → P.getD a 0 ≤ P.getD b 0
  pb : ∀ k, 0 ≤ P.getD k 0 ∧ P.getD k 0 ≤ 180
  gb : ∀ k, 0 ≤ gm k ∧ gm k ≤ 11
  ob : ∀ k, 0 ≤ O.getD k 0 ∧ O.getD k 0 ≤ 1980
  wei : ∀ k, 0 ≤ W.getD k 0 ∧ W.getD k 0 ≤ 2 * O.getD k 0
  med : ∀ k, k < n → 0 ≤ M.getD k 0 ∧ M.getD k 0 ≤ O.getD k 0 ∧ (gm k < 3 → M.getD k 0 = O.getD k 0)
  pro : ∀ k, P.getD k 0 ≤ G.getD k 0 ∧ G.getD k 0 ≤ P.getD k 0 * max 1 (gm k)
  tot : totN P gm F = O.sum
theorem tie_of {n : Nat} {rs : List Res} (hok : leagueOk n rs = true) (hm : rs.length ≤ 11) : Tie n (pointsF n rs) (fairF n rs) (sumsF fOpp n rs) (sumsF fWei n rs) (progF n rs) (medF n rs) (fun k => gam k rs) where
  lp := pointsF_len (league_of hok)
  lf := by rw [(fair_perm hok).length_eq, List.length_range]
  lo := sums_length hok _
  lw := sums_length hok _
  lg := prog_length hok
  lm := med_length hok
  fn := fun a ha => by have := (fair_perm hok).mem_iff.1 ha; simpa using this
  fnd := (fair_perm hok).nodup_iff.2 List.nodup_range
  fs := fun i a b hb ha => by
    have h := fair_sorted hok
    rw [List.pairwise_iff_getElem] at h
    have hi := lt_of hb
    have hj := lt_of ha
    have := h i (i + 1) hi hj (by omega)
    rw [List.getElem?_eq_getElem hi] at hb
    rw [List.getElem?_eq_getElem hj] at ha
    injection hb with hb
    injection ha with ha
    rwa [hb, ha] at this
  pb := points_bd (league_of hok)
  gb := fun k => ⟨gam_nonneg k rs, by have := gam_le k rs; omega⟩
  ob := fun k => ⟨by have := wei_tie hok k; omega, opp_bd hok hm k⟩
  wei := wei_tie hok
  med := fun k hk => med_tie hok hk
  pro := prog_tie hok
  tot := total_tie hok
/-- The tied, in the order of their own table, within the fair table. -/
structure HeadIn (n : Nat) (P : List Int) (F H : List Nat) (a s : Nat) (L : Nat) : Prop where
  lt : s < 2 ^ n
  bit : s / 2 ^ a % 2 = 1
  len : H.length = bitN n s
  mem : ∀ b ∈ H, b < n ∧ s / 2 ^ b % 2 = 1 ∧ P.getD b 0 = P.getD a 0
  at_ : ∀ i, i < H.length → F[L + i]? = H[i]?
theorem head_in {n : Nat} {rs : List Res} (hok : leagueOk n rs = true) {a : Nat} (ha : a < n) :
    ∃ L, HeadIn n (pointsF n rs) (fairF n rs) (headF n rs ((tiedOf (pointsF n rs) a : Nat) : Int)) a (tiedOf (pointsF n rs) a) L := by
  obtain ⟨pre, post, hF⟩ := fair_block hok ha
  have hl := pointsF_len (league_of hok)
  have hlt := tied_lt (pointsF n rs) a
  rw [hl] at hlt
  have hbit := fun b => in_tied (pointsF n rs) a b
  refine ⟨pre.length, hlt, ?_, head_bits hok ha, fun b hb => ?_, fun i hi => ?_⟩
  · have := hbit a
    rw [inSet, Int.toNat_natCast, decide_eq_true (show a < (pointsF n rs).length ∧ _ from ⟨by omega, rfl⟩)] at this
    simpa using this
  · obtain ⟨h1, h2⟩ := ((head_tied hok ha).2 b).1 hb
    have := hbit b
    rw [inSet, Int.toNat_natCast, decide_eq_true (show b < (pointsF n rs).length ∧ _ from ⟨by omega, h2⟩)] at this
    exact ⟨h1, by simpa using this, h2⟩
  · rw [hF, List.append_assoc, List.getElem?_append_right (by omega), show pre.length + i - pre.length = i by omega, List.getElem?_append_left hi]
end Go.Proofs.Ytehlijpjcjegcaa
