/- Contracts: MedianSums (reference). -/
import Derived.Test.YtehlijpjcjegcaaMedI
import Derived.Test.YtehlijpjcjegcaaLgL
namespace Go.Proofs.Ytehlijpjcjegcaa
set_option linter.unusedSimpArgs false
set_option linter.unusedVariables false
open Go.RowKit

set_option maxRecDepth 100000 in
set_option maxHeartbeats 8000000 in
theorem sMedianSums_c (n : Int) (A : Option Addr) (c : Nat) (rs : List Res) (w : World) (ha : Games w A rs) (hm : rs.length ≤ 1048576) :
    Calls Try.prog 26 #[lgv n A rs.length c] w (GivesI 3 w (medF n rs)) := by
  have hlc := fun W (h : Games W A rs) => sLeagueOk_c n A c rs W h hm
  obtain ⟨b0, b1⟩ := box2 w (.int .i64 n) (.slice A rs.length c) 29
  have hb1 : Below w.heap.size w (w.alloc (.cells #[.int .i64 n, .slice A rs.length c] 29)) := (Below.refl _ _).alloc (Nat.le_refl _) _
  cases hok : leagueOk n rs
  · have hv : medF n rs = [] := by rw [medF, if_neg (by simp [hok])]
    rw [hv]
    rw [hok] at hlc
    unfold lgv at hlc ⊢
    have Ha := Lib.hid ha
    have Hlc := Lib.hid hlc
    have Hb1 := Lib.hid hb1
    have Hok := Lib.hid hok
    clear ha hlc hb1 hok
    clear hv
    go_enter Try.func26, Try.ntmps26
    go_wp2_with fail
    refine (Hlc.out _ (Ha.out.keep (keep_of_below Hb1.out))).mono ?_
    rintro e w1 ⟨rfl, hb⟩
    go_wp2
    go_ret
    exact ⟨none, 0, rfl, Own.nil .., Hb1.out.trans (hb.mono Hb1.out.size)⟩
  · have hL := league_of hok
    obtain ⟨n, rfl⟩ := Int.eq_ofNat_of_zero_le (show 0 ≤ n by have := hL.two; omega)
    have hn8 : n ≤ 8 := by have := hL.eight; omega
    have hm60 := hL.few
    have hrs := hL.ok
    have hpc := fun W (h : Games W A rs) => l12All_c n A c rs W h hok
    have hPg := pointsF_get hL
    have hPl := pointsF_len hL
    have hM : medF n rs = (List.range n).map (fun k => medFold (adds (pointsF n rs) k rs) 0 0 0 0) := by rw [medF, if_pos hok]; rfl
    rw [hM]
    rw [hok] at hlc
    generalize pointsF n rs = P at hpc hPg hPl
    have hSl : ((List.range n).map (fun k => medFold (adds P k rs) 0 0 0 0)).length = n := by simp
    have hSa : ∀ k, k < n → ((List.range n).map (fun k => medFold (adds P k rs) 0 0 0 0))[k]? = some (medFold (adds P k rs) 0 0 0 0) := fun k hk => by rw [List.getElem?_map, List.getElem?_range hk]; rfl
    generalize (List.range n).map (fun k => medFold (adds P k rs) 0 0 0 0) = S at hSl hSa
    unfold lgv at hlc hpc ⊢
    clear hm
    obtain ⟨m, hm⟩ : ∃ m, rs.length = m := ⟨_, rfl⟩
    rw [hm] at hm60 hlc hpc hb1 b0 b1 ⊢
    have Ha := Lib.hid ha
    have Hm := Lib.hid hm
    have Hrs := Lib.hid hrs
    have Hb1 := Lib.hid hb1
    have Hlc := Lib.hid hlc
    have Hpc := Lib.hid hpc
    have HPg := Lib.hid hPg
    have HPl := Lib.hid hPl
    have HSl := Lib.hid hSl
    have HSa := Lib.hid hSa
    clear ha hm hrs hb1 hlc hpc hPg hPl hSl hSa
    clear hL hok hM
    go_enter Try.func26, Try.ntmps26
    go_wp2_with fail
    refine (Hlc.out _ (Ha.out.keep (keep_of_below Hb1.out))).mono ?_
    rintro e w1 ⟨rfl, hb⟩
    have c0 := keep_of_below hb _ _ b0
    have c1 := keep_of_below hb _ _ b1
    have Hb2 := Lib.hid (Hb1.out.trans (hb.mono Hb1.out.size))
    clear hb b0 b1 Hb1
    go_wp2_with fail
    refine (Hpc.out _ (Ha.out.keep (keep_of_below Hb2.out))).mono ?_
    rintro e w2 ⟨Bp, dp, rfl, hop, hb⟩
    have b1 := keep_of_below hb _ _ c1
    have Hb3 := Lib.hid (Hb2.out.trans (hb.mono Hb2.out.size))
    have Hpi := Lib.hid hop.ints
    have C1 := Lib.hid b1
    clear hb c0 c1 Hb2 hop
    rw [HPl.out]
    go_wp2
    clear b1
    go_loopw [21, 4] (fun i v wr => ∃ (k : Nat) (B : Option Addr) (d : Nat), k ≤ n ∧ i = .int .i64 k ∧ v = .slice B k d ∧ Own 3 w2.heap.size wr.heap.size wr B d ((S.map (Value.int .i64)).take k) ∧ Below w2.heap.size w2 wr) (fun i _ _ => n - (intOf i).toNat)
    case atStart => exact ⟨0, _, 0, Nat.zero_le _, rfl, rfl, by simpa using out_empty0 3 w2.heap.size w2 (Nat.le_refl _), (Below.refl _ _).alloc (Nat.le_refl _) _⟩
    case round =>
      obtain ⟨k, B, d, hk, rfl, rfl, ho, hd⟩ := hrel
      have Ho := Lib.hid ho
      have Hd := Lib.hid hd
      clear ho hd
      by_cases hlt : k < n
      · have hki : (k : Int) < (n : Int) := by omega
        have hl : ((S.map (Value.int .i64)).take k).length = k := by rw [List.length_take, List.length_map, HSl.out]; omega
        obtain ⟨s, hs⟩ : ∃ s, medFold (adds P k rs) 0 0 0 0 = s := ⟨_, rfl⟩
        have hS := HSa.out k hlt
        rw [hs] at hS
        have c1 := keep_of_below Hd.out _ _ C1.out
        obtain ⟨wo, hwo⟩ : ∃ wo : World, wo = wr := ⟨_, rfl⟩
        rw [← hwo] at Ho Hd c1 ⊢
        have Hgo := Lib.hid (Ha.out.keep (keep_of_below (Hb3.out.trans (Hd.out.mono Hb3.out.size))))
        have Hpo := Lib.hid (Hpi.out.keep (keep_of_below Hd.out))
        have Hl := Lib.hid hl
        have Hs := Lib.hid hs
        have HS := Lib.hid hS
        clear hl hs hS
        clear hwo wr
        go_wp2
        clear c1
        go_loopw [27, 6, 7, 8, 9] (fun i us un um ul wr => ∃ (j nn : Nat) (z mo le : Int), j ≤ m ∧ nn ≤ j ∧ i = .int .i64 j ∧ us = .int .i64 z ∧ un = .int .i64 nn ∧ um = .int .i64 mo ∧ ul = .int .i64 le ∧ 0 ≤ z ∧ z ≤ 180 * (j : Int) ∧ 0 ≤ mo ∧ mo ≤ 180 ∧ 0 ≤ le ∧ le ≤ 180 ∧ medFold (adds P k (rs.drop j)) nn z mo le = s ∧ Below wo.heap.size wo wr) (fun i _ _ _ _ _ => m - (intOf i).toNat)
        case atStart => exact ⟨0, 0, 0, 0, 0, Nat.zero_le _, Nat.le_refl _, rfl, rfl, rfl, rfl, rfl, by omega, by omega, by omega, by omega, by omega, by omega, Hs.out, Below.refl _ _⟩
        case round =>
          obtain ⟨j, nn, z, mo, le, hj, hnj, rfl, rfl, rfl, rfl, rfl, hz0, hz1, hmo0, hmo1, hle0, hle1, hF, hdr⟩ := hrel
          have Hdr := Lib.hid hdr
          clear hdr
          by_cases hlt2 : j < m
          · have hji : (j : Int) < (m : Int) := by omega
            obtain ⟨r, hr⟩ := some_of (l := rs) (k := j) (by rw [Hm.out]; exact hlt2)
            rw [drop_of hr, adds] at hF
            have hro := resOk_of (Hrs.out r (List.mem_of_getElem? hr))
            obtain ⟨ad, rfl, a0, a1, a2, a3⟩ := (Hgo.out.keep (keep_of_below Hdr.out)) j _ hr
            obtain ⟨rh, ra, rg, rt⟩ := r
            obtain ⟨h, eh⟩ := Int.eq_ofNat_of_zero_le hro.h0
            obtain ⟨a, ea⟩ := Int.eq_ofNat_of_zero_le hro.a0
            simp only at eh ea a0 a1 a2 a3 hF
            subst eh ea
            simp only [Int.toNat_natCast] at hF
            have hhn : h < n := by have := hro.hn; simp only at this; omega
            have han : a < n := by have := hro.an; simp only at this; omega
            have hhi : (h : Int) < (n : Int) := by omega
            have hai : (a : Int) < (n : Int) := by omega
            obtain ⟨b0, b1, b2, b3⟩ := box4 wr (.int .i64 (h : Int)) (.int .i64 (a : Int)) (.int .i64 rg) (.int .i64 rt) 47
            have hbr : Below wr.heap.size wr (wr.alloc (.cells #[.int .i64 (h : Int), .int .i64 (a : Int), .int .i64 rg, .int .i64 rt] 47)) := (Below.refl _ _).alloc (Nat.le_refl _) _
            have hpw := Hpo.out.keep (keep_of_below (Hdr.out.trans (hbr.mono Hdr.out.size)))
            have hd2 := Hdr.out.trans (hbr.mono Hdr.out.size)
            have w1 : IntKind.i64.wrap ((nn : Int) + 1) = (nn : Int) + 1 := IntWalk.i64_in _ (by omega)
            have Hr := Lib.hid hr
            have Hro := Lib.hid hro
            have Hbr := Lib.hid hbr
            have Hd2 := Lib.hid hd2
            clear hr hro hbr hd2
            by_cases e1 : (k : Int) = (h : Int)
            · obtain ⟨p, hp⟩ := some_of (l := P) (k := a) (by rw [HPl.out]; exact han)
              obtain ⟨pd, rfl, hcp⟩ := hpw a p hp
              have hpg : P.getD a 0 = p := by rw [List.getD_eq_getElem?_getD, hp]; rfl
              have hpb := HPg.out a
              rw [hpg] at hpb
              rw [if_pos e1, hpg, List.singleton_append, medFold] at hF
              have e3 : ((k : Int) == (h : Int)) = true := by simp [e1]
              have hp0 := hpb.1
              have hp1 := hpb.2
              have e5 : IntKind.i64.wrap (z + p) = z + p := IntWalk.i64_in _ (by omega)
              by_cases h0 : nn = 0
              · have e6 : ((nn : Int) == 0) = true := by simp [h0]
                rw [if_pos (.inl h0)] at hF
                have HF := Lib.hid hF
                have E1 := Lib.hid e1
                clear hF e1
                go_wp2
                all_goals
                  go_roundw
                  case rel => exact ⟨j + 1, nn + 1, z + p, max mo p, p, by omega, by omega, by go_num, by go_num, by go_num, by go_num, rfl, by omega, by omega, by omega, by omega, by omega, by omega, HF.out, Hd2.out⟩
                  case measure => simp [intOf]; omega
              · have e6 : ((nn : Int) == 0) = false := by simp; omega
                by_cases h1 : p < le
                · rw [if_pos (.inr h1)] at hF
                  have HF := Lib.hid hF
                  have E1 := Lib.hid e1
                  clear hF e1
                  go_wp2
                  all_goals
                    go_roundw
                    case rel => exact ⟨j + 1, nn + 1, z + p, max mo p, p, by omega, by omega, by go_num, by go_num, by go_num, by go_num, rfl, by omega, by omega, by omega, by omega, by omega, by omega, HF.out, Hd2.out⟩
                    case measure => simp [intOf]; omega
                · rw [if_neg (by omega)] at hF
                  have HF := Lib.hid hF
                  have E1 := Lib.hid e1
                  clear hF e1
                  go_wp2
                  all_goals
                    go_roundw
                    case rel => exact ⟨j + 1, nn + 1, z + p, max mo p, le, by omega, by omega, by go_num, by go_num, by go_num, by go_num, rfl, by omega, by omega, by omega, by omega, by omega, by omega, HF.out, Hd2.out⟩
                    case measure => simp [intOf]; omega
            · by_cases e2 : (k : Int) = (a : Int)
              · obtain ⟨p, hp⟩ := some_of (l := P) (k := h) (by rw [HPl.out]; exact hhn)
                obtain ⟨pd, rfl, hcp⟩ := hpw h p hp
                have hpg : P.getD h 0 = p := by rw [List.getD_eq_getElem?_getD, hp]; rfl
                have hpb := HPg.out h
                rw [hpg] at hpb
                rw [if_neg e1, if_pos e2, hpg, List.singleton_append, medFold] at hF
                have e3 : ((k : Int) == (h : Int)) = false := by simp; omega
                have e4 : ((k : Int) == (a : Int)) = true := by simp [e2]
                have hp0 := hpb.1
                have hp1 := hpb.2
                have e5 : IntKind.i64.wrap (z + p) = z + p := IntWalk.i64_in _ (by omega)
                by_cases h0 : nn = 0
                · have e6 : ((nn : Int) == 0) = true := by simp [h0]
                  rw [if_pos (.inl h0)] at hF
                  have HF := Lib.hid hF
                  have E1 := Lib.hid e1
                  clear hF e1
                  go_wp2
                  all_goals
                    go_roundw
                    case rel => exact ⟨j + 1, nn + 1, z + p, max mo p, p, by omega, by omega, by go_num, by go_num, by go_num, by go_num, rfl, by omega, by omega, by omega, by omega, by omega, by omega, HF.out, Hd2.out⟩
                    case measure => simp [intOf]; omega
                · have e6 : ((nn : Int) == 0) = false := by simp; omega
                  by_cases h1 : p < le
                  · rw [if_pos (.inr h1)] at hF
                    have HF := Lib.hid hF
                    have E1 := Lib.hid e1
                    clear hF e1
                    go_wp2
                    all_goals
                      go_roundw
                      case rel => exact ⟨j + 1, nn + 1, z + p, max mo p, p, by omega, by omega, by go_num, by go_num, by go_num, by go_num, rfl, by omega, by omega, by omega, by omega, by omega, by omega, HF.out, Hd2.out⟩
                      case measure => simp [intOf]; omega
                  · rw [if_neg (by omega)] at hF
                    have HF := Lib.hid hF
                    have E1 := Lib.hid e1
                    clear hF e1
                    go_wp2
                    all_goals
                      go_roundw
                      case rel => exact ⟨j + 1, nn + 1, z + p, max mo p, le, by omega, by omega, by go_num, by go_num, by go_num, by go_num, rfl, by omega, by omega, by omega, by omega, by omega, by omega, HF.out, Hd2.out⟩
                      case measure => simp [intOf]; omega
              · rw [if_neg e1, if_neg e2, List.nil_append] at hF
                have e3 : ((k : Int) == (h : Int)) = false := by simp; omega
                have e4 : ((k : Int) == (a : Int)) = false := by simp; omega
                have HF := Lib.hid hF
                have E1 := Lib.hid e1
                have E2 := Lib.hid e2
                clear hF e1 e2
                go_wp2
                go_roundw
                case rel => exact ⟨j + 1, nn, z, mo, le, by omega, by omega, by go_num, rfl, rfl, rfl, rfl, by omega, by omega, by omega, by omega, by omega, by omega, HF.out, Hd2.out⟩
                case measure => simp [intOf]; omega
          · obtain rfl : j = m := by omega
            rw [drop_end (l := rs) (by rw [Hm.out]; exact Nat.le_refl _), adds, medFold] at hF
            have hdw := Hd.out.trans (Hdr.out.mono Hd.out.size)
            have how := Ho.out.below Hdr.out
            have hzw := Hdr.out.size
            have e1 : IntKind.i64.wrap (z - mo) = z - mo := IntWalk.i64_in _ (by omega)
            have e2 : IntKind.i64.wrap (z - mo - le) = z - mo - le := IntWalk.i64_in _ (by omega)
            have Hdw := Lib.hid hdw
            have How := Lib.hid how
            clear hdw how
            by_cases h3 : 3 ≤ nn
            · have h3i : (3 : Int) ≤ (nn : Int) := by omega
              rw [if_pos h3] at hF
              subst hF
              go_wp2_with (at_builtin; refine wpList_app1 rfl (.tmp 74) (.tmp 76) 33 rfl 3 (.int .i64 0) 8 Try.underlying33 info_int rfl w2.heap.size B d ((S.map (Value.int .i64)).take k) ?_ ?_ (.int .i64 (z - mo - le)) rfl ?_ ?_ k ?_ ?_ ?_ ?_; exact How.out.wide (Nat.le_refl _) hzw; exact Hdw.out.size; (rw [Hl.out]; omega); decide; exact Hl.out.symm; rfl; rfl; intro B2 d2 w' ho' hb' _ _; have Ho' := Lib.hid ho'; have Hb' := Lib.hid hb'; clear ho' hb')
              go_wp2
              go_roundw
              case rel => exact ⟨k + 1, B2, d2, by omega, by go_num, rfl, by rw [take_of (map_some HS.out)]; exact Ho'.out, Hdw.out.trans Hb'.out⟩
              case measure => simp [intOf]; omega
            · have h3i : ¬ (3 : Int) ≤ (nn : Int) := by omega
              rw [if_neg h3] at hF
              subst hF
              go_wp2_with (at_builtin; refine wpList_app1 rfl (.tmp 74) (.tmp 76) 33 rfl 3 (.int .i64 0) 8 Try.underlying33 info_int rfl w2.heap.size B d ((S.map (Value.int .i64)).take k) ?_ ?_ (.int .i64 z) rfl ?_ ?_ k ?_ ?_ ?_ ?_; exact How.out.wide (Nat.le_refl _) hzw; exact Hdw.out.size; (rw [Hl.out]; omega); decide; exact Hl.out.symm; rfl; rfl; intro B2 d2 w' ho' hb' _ _; have Ho' := Lib.hid ho'; have Hb' := Lib.hid hb'; clear ho' hb')
              go_wp2
              go_roundw
              case rel => exact ⟨k + 1, B2, d2, by omega, by go_num, rfl, by rw [take_of (map_some HS.out)]; exact Ho'.out, Hdw.out.trans Hb'.out⟩
              case measure => simp [intOf]; omega
      · obtain rfl : k = n := by omega
        have ho3 := Ho.out
        rw [List.take_of_length_le (by rw [List.length_map, HSl.out]; exact Nat.le_refl _)] at ho3
        have Ho3 := Lib.hid ho3
        clear ho3
        go_wp2
        go_ret
        exact ⟨B, d, by rw [HSl.out]; rfl, Ho3.out.wide Hb3.out.size (Nat.le_refl _), Hb3.out.trans (Hd.out.mono Hb3.out.size)⟩
end Go.Proofs.Ytehlijpjcjegcaa
