/- Contracts: NeedsWin (reference). -/
import Derived.Test.YteigcfcabmoghaaNeed
import Derived.Test.YteigcfcabmoghaaDayG
namespace Go.Proofs.Yteigcfcabmoghaa
set_option linter.unusedSimpArgs false
set_option linter.unusedVariables false
open Go.RowKit

set_option maxHeartbeats 4000000 in
theorem sNeedsWin_c (A B : Option Addr) (c d : Nat) (points : List Int) (games : List (List Int)) (k : Int) (w : World) (ha : Ints w A points) (hb : Rows w B games) (hm : points.length ≤ 1048576) :
    Calls Try.prog 35 #[.slice A points.length c, .slice B games.length d, .int .i64 k] w (Gives w (.bool (needF points games k))) := by
  generalize hR : needF points games k = R
  have HR := Lib.hid hR
  clear hR
  have Ha := Lib.hid ha
  have Hb := Lib.hid hb
  clear ha hb
  cases h1 : ofDay points games k
  · have HS : Hid (false = R) := Lib.hid (by rw [← HR.out]; simp [needF, h1])
    have H1 := Lib.hid h1
    clear h1
    go_enter Try.func35, Try.ntmps35
    go_wp2_with fail
    refine (gives_v (l15Ok_c _ _ _ _ _ _ _ _ Ha.out Hb.out hm) (congrArg Value.bool H1.out)).mono ?_
    rintro e w1 ⟨rfl, hb1⟩
    go_wp2
    go_ret
    exact ⟨ret_bool HS.out, hb1⟩
  · obtain ⟨hdok, p, rfl, hp⟩ := ofDay_day h1
    obtain ⟨hday, hpt⟩ := day_of hdok
    have HS : Hid (needFrom points games p false ((endF games.length).drop 0) = R) := Lib.hid (by rw [← HR.out]; simp [needF, h1])
    have hfew := hday.few
    have hn8 := hday.eight
    have hpi : (p : Int) < (points.length : Int) := by omega
    obtain ⟨N, hN⟩ : ∃ N, 3 ^ games.length = N := ⟨_, rfl⟩
    have hN81 : N ≤ 81 := by rw [← hN]; exact Nat.le_trans (Nat.pow_le_pow_right (by decide) hfew) (by decide)
    have Hcnt := Lib.hid (fun W => calls_v (l15Count_c games.length W hfew) (congrArg (fun x : Nat => Value.int .i64 x) hN))
    obtain ⟨v0, hv0⟩ := some_of (l := points) (k := p) hp
    obtain ⟨hv1, hv2⟩ := hpt v0 (List.mem_of_getElem? hv0)
    have hv0g : points.getD p 0 = v0 := by rw [List.getD_eq_getElem?_getD, hv0]; rfl
    have e3 : IntKind.i64.wrap (v0 + 3) = v0 + 3 := IntWalk.i64_in _ (by omega)
    have H1 := Lib.hid h1
    have Hday := Lib.hid hday
    have Hpt := Lib.hid hpt
    have Hdok := Lib.hid hdok
    have HN := Lib.hid hN
    have Hv0 := Lib.hid hv0
    have Hv0g := Lib.hid hv0g
    clear h1 hday hpt hdok hN hv0 hv0g
    clear HR
    go_enter Try.func35, Try.ntmps35
    go_wp2_with fail
    refine (gives_v (l15Ok_c _ _ _ _ _ _ _ _ Ha.out Hb.out hm) (congrArg Value.bool H1.out)).mono ?_
    rintro e w1 ⟨rfl, hb1⟩
    have Hb1 := Lib.hid hb1
    clear hb1
    go_wp2
    go_loopw [8, 7] (fun i f wr => ∃ (j : Nat) (fb : Bool), j ≤ N ∧ i = .int .i64 j ∧ f = .bool fb ∧ needFrom points games p fb ((endF games.length).drop j) = R ∧ Below w.heap.size w wr) (fun i _ _ => N - (intOf i).toNat)
    case atStart => exact ⟨0, false, Nat.zero_le _, rfl, rfl, HS.out, Hb1.out⟩
    case round =>
      clear HS
      obtain ⟨j, fb, hj, rfl, rfl, hS, hdn⟩ := hrel
      have HS := Lib.hid hS
      have Hdn := Lib.hid hdn
      clear hS hdn
      by_cases hlt : j < N
      · have hx : (endF games.length)[j]? = some (digits games.length j) := endF_at _ _ (by rw [HN.out]; exact hlt)
        obtain ⟨e, hee⟩ : ∃ e, digits games.length j = e := ⟨_, rfl⟩
        rw [hee] at hx
        obtain ⟨hel, hen⟩ := endF_row _ e (List.mem_of_getElem? hx)
        obtain ⟨D, hD⟩ : ∃ D, afterD points games e = D := ⟨_, rfl⟩
        have hDl : D.length = points.length := by rw [← hD, afterD_len]
        obtain ⟨b, hbk⟩ := some_of (l := D) (k := p) (by rw [hDl]; exact hp)
        have hDg : D.getD p 0 = b := by rw [List.getD_eq_getElem?_getD, hbk]; rfl
        obtain ⟨m, hmm⟩ : ∃ m, moreOf b 0 D = m := ⟨_, rfl⟩
        have hm8 : m ≤ 8 := by rw [← hmm]; have := (moreOf_le b D 0).2; omega
        have HS1 : Hid ((if m = 0 then (if b = v0 + 3 then needFrom points games p true ((endF games.length).drop (j + 1)) else false) else needFrom points games p fb ((endF games.length).drop (j + 1))) = R) := Lib.hid (by
          have := HS.out
          rw [drop_of hx, needFrom] at this
          simpa only [goodE, threeE, hD, hDg, hmm, Hv0g.out, decide_eq_true_eq] using this)
        have Hx := Lib.hid hx
        have Hel := Lib.hid hel
        have Hen := Lib.hid hen
        have HD := Lib.hid hD
        have Hbk := Lib.hid hbk
        have Hmm := Lib.hid hmm
        have HDl := Lib.hid hDl
        have Hee := Lib.hid hee
        have HDg := Lib.hid hDg
        clear hx hel hen hD hbk hmm hDl hee hDg
        clear HS
        go_wp2_with fail
        refine (Hcnt.out _).mono ?_
        rintro e' w3 ⟨rfl, hq3⟩
        have Hdn3 := Lib.hid (below_dr Hdn.out hq3)
        clear hq3
        go_wp2_with fail
        refine (l15Ending_c games.length j _ hfew (by omega)).mono ?_
        rintro e' w4 ⟨C4, c4, e4, ho4, hb4⟩
        rw [Hee.out, Hel.out] at e4
        rw [Hee.out] at ho4
        subst e4
        have Hdn4 := Lib.hid (Hdn3.out.trans (hb4.mono Hdn3.out.size))
        have Ho4 := Lib.hid ho4
        clear ho4 hb4
        have hac := l15After_c A B C4 c d c4 points games e w4 (Ha.out.keep (keep_of_below Hdn4.out)) (Hb.out.keep (keep_of_below Hdn4.out)) Ho4.out.ints Hpt.out Hday.out Hel.out Hen.out
        rw [HD.out, Hel.out] at hac
        have Hac := Lib.hid hac
        clear hac
        go_wp2_with fail
        refine Hac.out.mono ?_
        rintro e' w5 ⟨C5, c5, rfl, ho5, hb5⟩
        have Hi5 := Lib.hid ho5.ints
        have Hdn5 := Lib.hid (Hdn4.out.trans (hb5.mono Hdn4.out.size))
        clear ho5 hb5
        obtain ⟨sm, hsm⟩ : ∃ sm, sameOf b p 0 0 D = sm := ⟨_, rfl⟩
        have hab := l15Above_c C5 c5 D p b w5 Hi5.out Hbk.out (by rw [HDl.out]; exact hm)
        rw [Hmm.out, hsm] at hab
        rw [HDl.out] at hab ⊢
        have Hsm := Lib.hid hsm
        have Hab := Lib.hid hab
        clear hsm hab
        by_cases hm0 : m = 0
        · have hm0' : ¬ (0 : Int) < (m : Int) := by omega
          have HS2 : Hid ((if b = v0 + 3 then needFrom points games p true ((endF games.length).drop (j + 1)) else false) = R) := Lib.hid (by have := HS1.out; rwa [if_pos hm0] at this)
          have Hm0 := Lib.hid hm0
          clear hm0
          clear HS1
          go_wp2_with fail
          refine Hab.out.mono ?_
          rintro e' w6 ⟨rfl, hq6⟩
          have Hdn6 := Lib.hid (below_dr Hdn5.out hq6)
          obtain ⟨cd, rfl, hcb⟩ := (Hi5.out.keep hq6.keep) p b Hbk.out
          obtain ⟨ad, rfl, hca⟩ := (Ha.out.keep (keep_of_below Hdn6.out)) p v0 Hv0.out
          clear hq6
          by_cases h3 : b = v0 + 3
          · have e4 : (b != v0 + 3) = false := by simp [h3]
            have HS3 : Hid (needFrom points games p true ((endF games.length).drop (j + 1)) = R) := Lib.hid (by have := HS2.out; rwa [if_pos h3] at this)
            have H3 := Lib.hid h3
            clear h3
            clear HS2
            go_wp2
            go_quiet (fail)
            go_wp2
            go_roundw
            case rel => exact ⟨j + 1, true, by omega, by go_num, rfl, HS3.out, Hdn6.out.trans (below_drewN _ _ _)⟩
            case measure => simp [intOf]; omega
          · have e4 : (b != v0 + 3) = true := by simp [h3]
            have HS3 : Hid (false = R) := Lib.hid (by have := HS2.out; rwa [if_neg h3] at this)
            have H3 := Lib.hid h3
            clear h3
            clear HS2
            go_wp2
            go_quiet (fail)
            go_wp2
            go_ret
            exact ⟨ret_bool HS3.out, Hdn6.out.trans (below_drewN _ _ _)⟩
        · have hm0' : (0 : Int) < (m : Int) := by omega
          have HS2 : Hid (needFrom points games p fb ((endF games.length).drop (j + 1)) = R) := Lib.hid (by have := HS1.out; rwa [if_neg hm0] at this)
          have Hm0 := Lib.hid hm0
          clear hm0
          clear HS1
          go_wp2_with fail
          refine Hab.out.mono ?_
          rintro e' w6 ⟨rfl, hq6⟩
          have Hdn6 := Lib.hid (below_dr Hdn5.out hq6)
          clear hq6
          go_wp2
          go_roundw
          case rel => exact ⟨j + 1, fb, by omega, by go_num, rfl, HS2.out, Hdn6.out⟩
          case measure => simp [intOf]; omega
      · obtain rfl : j = N := by omega
        have HS1 : Hid (fb = R) := Lib.hid (by have := HS.out; rwa [drop_end (l := endF games.length) (by rw [endF_length, HN.out]; exact Nat.le_refl _), needFrom] at this)
        have hcj := Hcnt.out
        go_wp2_with fail
        refine (Hcnt.out _).mono ?_
        rintro e' w3 ⟨rfl, hq3⟩
        go_wp2
        go_ret
        exact ⟨ret_bool HS1.out, below_dr Hdn.out hq3⟩
end Go.Proofs.Yteigcfcabmoghaa
