/- Contracts: a first ending of a last day in which a club is first (program and reference). -/
import Derived.Test.YteigcfcabmoghaaDayC
import Derived.Test.YteigcfcabmoghaaOpen
namespace Go.Proofs.Yteigcfcabmoghaa
open Go.RowKit

def isFirst (pts : List Int) (games : List (List Int)) (c : Nat) (e : List Int) : Bool := decide (moreOf ((afterD pts games e).getD c 0) 0 (afterD pts games e) = 0)
def firstEnd (pts : List Int) (games : List (List Int)) (k : Int) : Option (List Int) := if ofDay pts games k = true then (endF games.length).find? (isFirst pts games k.toNat) else none
theorem Own2.rowOwn {T TT : TypeId} {lo hi : Nat} {w : World} {A : Option Addr} {c : Nat} {xss : List (List Int)} (h : Own2 T TT lo hi w A c xss) {k : Nat} {xs : List Int} (hx : xss[k]? = some xs) :
    ∃ ad a c', A = some ad ∧ w.cell? (ad.add k) = some (.slice a xs.length c') ∧ Own T lo hi w a c' (xs.map (.int .i64)) := by
  obtain ⟨hs, ho, hi⟩ := h
  obtain ⟨h, hh⟩ := some_of (l := hs) (k := k) (by rw [hi.len]; exact lt_of hx)
  obtain ⟨g, rfl, _, _, hc, _⟩ := ho.at_ (zip_some hh hx)
  exact ⟨_, h.1, h.2, rfl, by rw [addr_zero_add]; exact hc, hi.own k h xs hh hx⟩

set_option maxHeartbeats 4000000 in
theorem iFirstEnding_c (A B : Option Addr) (c d : Nat) (points : List Int) (games : List (List Int)) (k : Int) (w : World) (ha : Ints w A points) (hb : Rows w B games) (hm : points.length ≤ 1048576) :
    Calls Try.prog 34 #[.slice A points.length c, .slice B games.length d, .int .i64 k] w (GivesIb 3 w ((firstEnd points games k).getD []) (firstEnd points games k).isSome) := by
  generalize hR : firstEnd points games k = R
  have HR := Lib.hid hR
  clear hR
  have Ha := Lib.hid ha
  have Hb := Lib.hid hb
  clear ha hb
  cases h1 : ofDay points games k
  · have HS : Hid (none = R) := Lib.hid (by rw [← HR.out]; simp [firstEnd, h1])
    have H1 := Lib.hid h1
    clear h1
    go_enter Try.func34, Try.ntmps34
    go_wp2_with fail
    refine (gives_v (isOfDay_c _ _ _ _ _ _ _ _ Ha.out Hb.out hm) (congrArg Value.bool H1.out)).mono ?_
    rintro e w1 ⟨rfl, hb1⟩
    go_wp2
    go_ret2
    rw [← HS.out]
    exact ⟨none, 0, rfl, Own.nil .., hb1⟩
  · obtain ⟨hdok, p, rfl, hp⟩ := ofDay_day h1
    obtain ⟨hday, hpt⟩ := day_of hdok
    have HS : Hid (((endF games.length).drop 0).find? (isFirst points games p) = R) := Lib.hid (by rw [← HR.out]; simp [firstEnd, h1])
    have hfew := hday.few
    have hn8 := hday.eight
    obtain ⟨N, hN⟩ : ∃ N, (endF games.length).length = N := ⟨_, rfl⟩
    have hN81 : N ≤ 81 := by rw [← hN, endF_length]; exact Nat.le_trans (Nat.pow_le_pow_right (by decide) hfew) (by decide)
    have H1 := Lib.hid h1
    have Hday := Lib.hid hday
    have Hpt := Lib.hid hpt
    have Hdok := Lib.hid hdok
    clear h1 hday hpt hdok
    go_enter Try.func34, Try.ntmps34
    go_wp2_with fail
    refine (gives_v (isOfDay_c _ _ _ _ _ _ _ _ Ha.out Hb.out hm) (congrArg Value.bool H1.out)).mono ?_
    rintro e w1 ⟨rfl, hb1⟩
    have Hb1 := Lib.hid hb1
    clear hb1
    have hz1 : w.heap.size ≤ w1.heap.size := Hb1.out.size
    go_wp2_with fail
    refine (endingsOf_c _ _ _ _ hfew).mono ?_
    rintro e w3 ⟨C, cc, rfl, he3, hb3⟩
    rw [hN]
    have Hb3 := Lib.hid (Hb1.out.trans (hb3.mono Hb1.out.size))
    have He3 := Lib.hid he3
    have HN := Lib.hid hN
    clear he3 hN
    clear hb3
    go_wp2
    go_loopw [18] (fun i wr => ∃ (j : Nat), j ≤ N ∧ i = .int .i64 j ∧ ((endF games.length).drop j).find? (isFirst points games p) = R ∧
      Own2 3 22 w1.heap.size w3.heap.size wr C cc (endF games.length) ∧ Below w.heap.size w wr ∧ w3.heap.size ≤ wr.heap.size) (fun i _ => N - (intOf i).toNat)
    case atStart => exact ⟨0, Nat.zero_le _, rfl, HS.out, He3.out, Hb3.out, Nat.le_refl _⟩
    case round =>
      obtain ⟨j, hj, rfl, hS, he, hdn, hzr⟩ := hrel
      have HS := Lib.hid hS
      have He := Lib.hid he
      have Hdn := Lib.hid hdn
      clear hS he hdn
      by_cases hlt : j < N
      · obtain ⟨e, hx⟩ := some_of (l := endF games.length) (k := j) (by rw [HN.out]; exact hlt)
        obtain ⟨bd, b', c', rfl, hca, hio⟩ := He.out.rowOwn hx
        obtain ⟨hel, hen⟩ := endF_row _ e (List.mem_of_getElem? hx)
        obtain ⟨D, hD⟩ : ∃ D, afterD points games e = D := ⟨_, rfl⟩
        have hDl : D.length = points.length := by rw [← hD, afterD_len]
        obtain ⟨b, hbk⟩ := some_of (l := D) (k := p) (by rw [hDl]; exact hp)
        obtain ⟨m, hmm⟩ : ∃ m, moreOf b 0 D = m := ⟨_, rfl⟩
        have hm8 : m ≤ 8 := by rw [← hmm]; have := (moreOf_le b D 0).2; omega
        have hfi : isFirst points games p e = decide (m = 0) := by rw [isFirst, hD, show D.getD p 0 = b from by simp [hbk], hmm]
        have hac := afterDay_c A B b' c d c' points games e wr (Ha.out.keep (keep_of_below Hdn.out)) (Hb.out.keep (keep_of_below Hdn.out)) hio.ints Hpt.out Hday.out hel hen
        rw [hD] at hac
        rw [hel] at hac hca
        have Hel := Lib.hid hel
        have Hen := Lib.hid hen
        have HD := Lib.hid hD
        have Hac := Lib.hid hac
        have Hbk := Lib.hid hbk
        have Hmm := Lib.hid hmm
        have HDl := Lib.hid hDl
        have Hio := Lib.hid hio
        clear hel hen hD hac hbk hmm hDl hio
        by_cases hm0 : m = 0
        · have HS2 : Hid (some e = R) := Lib.hid (by have := HS.out; rwa [drop_of hx, List.find?_cons_of_pos (by rw [hfi, hm0]; rfl)] at this)
          have hm0' : ((m : Int) == 0) = true := by simp [hm0]
          have Hx := Lib.hid hx
          have Hfi := Lib.hid hfi
          have Hm0 := Lib.hid hm0
          clear hx hfi hm0
          go_wp2_with fail
          refine Hac.out.mono ?_
          rintro e' w4 ⟨C4, c4, rfl, ho4, hb4⟩
          have Hi4 := Lib.hid ho4.ints
          have Hdn4 := Lib.hid (Hdn.out.trans (hb4.mono Hdn.out.size))
          have Hio4 := Lib.hid (Hio.out.below (hb4.mono hzr))
          have hz4 : w3.heap.size ≤ w4.heap.size := Nat.le_trans hzr hb4.size
          clear ho4 hb4 hca
          go_wp2_with fail
          refine (calls_v (better_c C4 c4 D p b w4 Hi4.out Hbk.out (by rw [HDl.out]; exact hm)) (congrArg (fun x : Nat => Value.int .i64 x) Hmm.out)).mono ?_
          rintro e' w5 ⟨rfl, hq5⟩
          go_wp2
          go_ret2
          rw [← HS2.out]
          exact ⟨b', c', by rw [← Hel.out]; rfl, (Hio4.out.below (hq5.below _)).wide hz1 (Nat.le_trans hz4 (hq5.below 0).size), below_dr Hdn4.out hq5⟩
        · have HS2 : Hid (((endF games.length).drop (j + 1)).find? (isFirst points games p) = R) := Lib.hid (by have := HS.out; rwa [drop_of hx, List.find?_cons_of_neg (by rw [hfi]; simpa using hm0)] at this)
          have hm0' : ((m : Int) == 0) = false := by rw [beq_eq_false_iff_ne]; omega
          have Hx := Lib.hid hx
          have Hfi := Lib.hid hfi
          have Hm0 := Lib.hid hm0
          clear hx hfi hm0
          go_wp2_with fail
          refine Hac.out.mono ?_
          rintro e' w4 ⟨C4, c4, rfl, ho4, hb4⟩
          have Hi4 := Lib.hid ho4.ints
          have Hdn4 := Lib.hid (Hdn.out.trans (hb4.mono Hdn.out.size))
          have He4 := Lib.hid (He.out.below (hb4.mono hzr))
          have hz4 : w3.heap.size ≤ w4.heap.size := Nat.le_trans hzr hb4.size
          clear ho4 hb4 hca
          go_wp2_with fail
          refine (calls_v (better_c C4 c4 D p b w4 Hi4.out Hbk.out (by rw [HDl.out]; exact hm)) (congrArg (fun x : Nat => Value.int .i64 x) Hmm.out)).mono ?_
          rintro e' w5 ⟨rfl, hq5⟩
          have Hdn5 := Lib.hid (below_dr Hdn4.out hq5)
          have He5 := Lib.hid (He4.out.below (hq5.below _))
          have hz5 : w3.heap.size ≤ w5.heap.size := Nat.le_trans hz4 (hq5.below 0).size
          clear hq5
          go_wp2
          go_roundw
          case rel => exact ⟨j + 1, by omega, by go_num, HS2.out, He5.out, Hdn5.out, hz5⟩
          case measure => simp [intOf]; omega
      · obtain rfl : j = N := by omega
        have HS2 : Hid (none = R) := Lib.hid (by have := HS.out; rwa [List.drop_of_length_le (by rw [HN.out]; exact Nat.le_refl _), List.find?_nil] at this)
        go_wp2
        go_ret2
        rw [← HS2.out]
        exact ⟨none, 0, rfl, Own.nil .., Hdn.out⟩

set_option maxHeartbeats 4000000 in
theorem sFirstEnding_c (A B : Option Addr) (c d : Nat) (points : List Int) (games : List (List Int)) (k : Int) (w : World) (ha : Ints w A points) (hb : Rows w B games) (hm : points.length ≤ 1048576) :
    Calls Try.prog 33 #[.slice A points.length c, .slice B games.length d, .int .i64 k] w (GivesIb 3 w ((firstEnd points games k).getD []) (firstEnd points games k).isSome) := by
  generalize hR : firstEnd points games k = R
  have HR := Lib.hid hR
  clear hR
  have Ha := Lib.hid ha
  have Hb := Lib.hid hb
  clear ha hb
  cases h1 : ofDay points games k
  · have HS : Hid (none = R) := Lib.hid (by rw [← HR.out]; simp [firstEnd, h1])
    have H1 := Lib.hid h1
    clear h1
    go_enter Try.func33, Try.ntmps33
    go_wp2_with fail
    refine (gives_v (l15Ok_c _ _ _ _ _ _ _ _ Ha.out Hb.out hm) (congrArg Value.bool H1.out)).mono ?_
    rintro e w1 ⟨rfl, hb1⟩
    go_wp2
    go_ret2
    rw [← HS.out]
    exact ⟨none, 0, rfl, Own.nil .., hb1⟩
  · obtain ⟨hdok, p, rfl, hp⟩ := ofDay_day h1
    obtain ⟨hday, hpt⟩ := day_of hdok
    have HS : Hid (((endF games.length).drop 0).find? (isFirst points games p) = R) := Lib.hid (by rw [← HR.out]; simp [firstEnd, h1])
    have hfew := hday.few
    have hn8 := hday.eight
    obtain ⟨N, hN⟩ : ∃ N, 3 ^ games.length = N := ⟨_, rfl⟩
    have hN81 : N ≤ 81 := by rw [← hN]; exact Nat.le_trans (Nat.pow_le_pow_right (by decide) hfew) (by decide)
    have Hcnt := Lib.hid (fun W => calls_v (l15Count_c games.length W hfew) (congrArg (fun x : Nat => Value.int .i64 x) hN))
    have H1 := Lib.hid h1
    have Hday := Lib.hid hday
    have Hpt := Lib.hid hpt
    have Hdok := Lib.hid hdok
    have HN := Lib.hid hN
    clear h1 hday hpt hdok hN
    go_enter Try.func33, Try.ntmps33
    go_wp2_with fail
    refine (gives_v (l15Ok_c _ _ _ _ _ _ _ _ Ha.out Hb.out hm) (congrArg Value.bool H1.out)).mono ?_
    rintro e w1 ⟨rfl, hb1⟩
    have Hb1 := Lib.hid hb1
    clear hb1
    go_wp2
    go_loopw [8] (fun i wr => ∃ (j : Nat), j ≤ N ∧ i = .int .i64 j ∧ ((endF games.length).drop j).find? (isFirst points games p) = R ∧ Below w.heap.size w wr) (fun i _ => N - (intOf i).toNat)
    case atStart => exact ⟨0, Nat.zero_le _, rfl, HS.out, Hb1.out⟩
    case round =>
      obtain ⟨j, hj, rfl, hS, hdn⟩ := hrel
      have HS := Lib.hid hS
      have Hdn := Lib.hid hdn
      clear hS hdn
      by_cases hlt : j < N
      · have hx : (endF games.length)[j]? = some (digits games.length j) := endF_at _ _ (by rw [HN.out]; exact hlt)
        obtain ⟨e, hee⟩ : ∃ e, digits games.length j = e := ⟨_, rfl⟩
        rw [hee] at hx
        obtain ⟨hel, hen⟩ := endF_row _ e (List.mem_of_getElem? hx)
        obtain ⟨D, hD⟩ : ∃ D, afterD points games e = D := ⟨_, rfl⟩
        have hDl : D.length = points.length := by rw [← hD, afterD_len]
        obtain ⟨b, hbk⟩ := some_of (l := D) (k := p) (by rw [hDl]; exact hp)
        obtain ⟨m, hmm⟩ : ∃ m, moreOf b 0 D = m := ⟨_, rfl⟩
        have hm8 : m ≤ 8 := by rw [← hmm]; have := (moreOf_le b D 0).2; omega
        have hfi : isFirst points games p e = decide (m = 0) := by rw [isFirst, hD, show D.getD p 0 = b from by simp [hbk], hmm]
        have HS1 : Hid ((if m = 0 then some e else ((endF games.length).drop (j + 1)).find? (isFirst points games p)) = R) := Lib.hid (by
          have := HS.out
          rw [drop_of hx] at this
          by_cases hm0 : m = 0
          · rw [if_pos hm0]; rwa [List.find?_cons_of_pos (by rw [hfi, hm0]; rfl)] at this
          · rw [if_neg hm0]; rwa [List.find?_cons_of_neg (by rw [hfi]; simpa using hm0)] at this)
        have Hx := Lib.hid hx
        have Hel := Lib.hid hel
        have Hen := Lib.hid hen
        have HD := Lib.hid hD
        have Hbk := Lib.hid hbk
        have Hmm := Lib.hid hmm
        have HDl := Lib.hid hDl
        have Hee := Lib.hid hee
        have Hfi := Lib.hid hfi
        clear hx hel hen hD hbk hmm hDl hee hfi
        go_wp2_with fail
        refine (Hcnt.out _).mono ?_
        rintro e' w3 ⟨rfl, hq3⟩
        have Hdn3 := Lib.hid (below_dr Hdn.out hq3)
        clear hq3
        go_wp2_with fail
        refine (l15Ending_c games.length j _ hfew (by omega)).mono ?_
        rintro e' w4 ⟨C4, c4, e4, ho4, hb4⟩
        rw [Hee.out, Hel.out] at e4
        rw [Hee.out] at ho4
        subst e4
        have Hdn4 := Lib.hid (Hdn3.out.trans (hb4.mono Hdn3.out.size))
        have hz4 : w.heap.size ≤ w3.heap.size := Hdn3.out.size
        have Ho4 := Lib.hid ho4
        clear ho4 hb4
        have hac := l15After_c A B C4 c d c4 points games e w4 (Ha.out.keep (keep_of_below Hdn4.out)) (Hb.out.keep (keep_of_below Hdn4.out)) Ho4.out.ints Hpt.out Hday.out Hel.out Hen.out
        rw [HD.out, Hel.out] at hac
        have Hac := Lib.hid hac
        clear hac
        go_wp2_with fail
        refine Hac.out.mono ?_
        rintro e' w5 ⟨C5, c5, rfl, ho5, hb5⟩
        have Hi5 := Lib.hid ho5.ints
        have Hdn5 := Lib.hid (Hdn4.out.trans (hb5.mono Hdn4.out.size))
        have Ho5 := Lib.hid (Ho4.out.below hb5)
        have hz5 : w4.heap.size ≤ w5.heap.size := hb5.size
        clear ho5 hb5
        obtain ⟨sm, hsm⟩ : ∃ sm, sameOf b p 0 0 D = sm := ⟨_, rfl⟩
        have hab := l15Above_c C5 c5 D p b w5 Hi5.out Hbk.out (by rw [HDl.out]; exact hm)
        rw [Hmm.out, hsm] at hab
        have Hsm := Lib.hid hsm
        have Hab := Lib.hid hab
        clear hsm hab
        by_cases hm0 : m = 0
        · have HS2 : Hid (some e = R) := Lib.hid (by have := HS1.out; rwa [if_pos hm0] at this)
          have hm0' : ((m : Int) == 0) = true := by simp [hm0]
          have Hm0 := Lib.hid hm0
          clear hm0
          go_wp2_with fail
          refine Hab.out.mono ?_
          rintro e' w6 ⟨rfl, hq6⟩
          go_wp2
          go_ret2
          rw [← HS2.out]
          exact ⟨C4, c4, by rw [← Hel.out]; rfl, (Ho5.out.below (hq6.below _)).wide hz4 (Nat.le_trans hz5 (hq6.below 0).size), below_dr Hdn5.out hq6⟩
        · have HS2 : Hid (((endF games.length).drop (j + 1)).find? (isFirst points games p) = R) := Lib.hid (by have := HS1.out; rwa [if_neg hm0] at this)
          have hm0' : ((m : Int) == 0) = false := by rw [beq_eq_false_iff_ne]; omega
          have Hm0 := Lib.hid hm0
          clear hm0
          go_wp2_with fail
          refine Hab.out.mono ?_
          rintro e' w6 ⟨rfl, hq6⟩
          have Hdn6 := Lib.hid (below_dr Hdn5.out hq6)
          clear hq6
          go_wp2
          go_roundw
          case rel => exact ⟨j + 1, by omega, by go_num, HS2.out, Hdn6.out⟩
          case measure => simp [intOf]; omega
      · obtain rfl : j = N := by omega
        have HS2 : Hid (none = R) := Lib.hid (by have := HS.out; rwa [List.drop_of_length_le (by rw [endF_length, HN.out]; exact Nat.le_refl _), List.find?_nil] at this)
        go_wp2_with fail
        refine (Hcnt.out _).mono ?_
        rintro e' w3 ⟨rfl, hq3⟩
        go_wp2
        go_ret2
        rw [← HS2.out]
        exact ⟨none, 0, rfl, Own.nil .., below_dr Hdn.out hq3⟩
end Go.Proofs.Yteigcfcabmoghaa
