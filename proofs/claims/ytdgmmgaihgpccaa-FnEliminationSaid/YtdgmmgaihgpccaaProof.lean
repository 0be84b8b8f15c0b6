/- Contracts: the least set that proves that a club is out (program and reference). -/
import Derived.Test.YtdgmmgaihgpccaaBit
namespace Go.Proofs.Ytdgmmgaihgpccaa
open Go.RowKit

theorem bel_dr {B : Nat} {a b c : World} (h : Below B a b) (k : Dr b c) : Below B a c := h.trans (k.below _)
theorem pow_wrap {n N : Nat} (h : 2 ^ n = N) (hN : N ≤ 1048576) : wrap64 ((2 : Int) ^ n) = (N : Int) := by
  have e : ((2 : Int) ^ n) = (N : Int) := by rw [← h, Int.natCast_pow]; rfl
  rw [e]
  clear e h
  unfold wrap64
  omega

set_option maxHeartbeats 4000000 in
theorem proofOut_c (A B : Option Addr) (c d : Nat) (wins : List Int) (left : List (List Int)) (club : Nat) (best : Int) (w : World) (ha : Ints w A wins) (hb : Rows w B left) (hn : wins.length ≤ 6)
    (hw : ∀ v ∈ wins, 0 ≤ v ∧ v ≤ 1000) (hg : Games wins.length left) (hk : club < wins.length) (hb0 : 0 ≤ best) (hb1 : best ≤ 100000) :
    Calls Try.prog 54 #[.slice A wins.length c, .slice B left.length d, .int .i64 club, .int .i64 best] w (Gives w (.int .i64 (proofAt wins left club best : Nat))) := by
  generalize hR : proofAt wins left club best = R
  have HR := Lib.hid hR
  clear hR
  obtain ⟨N, hN⟩ : ∃ N, 2 ^ wins.length = N := ⟨_, rfl⟩
  have hN64 : N ≤ 64 := by rw [← hN]; exact Nat.pow_le_pow_right (by decide) hn
  have hN1 : 1 ≤ N := by rw [← hN]; exact Nat.one_le_two_pow
  have HS : Hid (firstIn (isProof wins left club best) (N - 1) 1 = R) := Lib.hid (by rw [← hN]; exact HR.out)
  have Ha := Lib.hid ha
  have Hb := Lib.hid hb
  have Hw := Lib.hid hw
  have HN := Lib.hid hN
  clear ha hb hw hN
  go_enter Try.func54, Try.ntmps54
  go_wp2
  go_loopw [9] (fun i wr => ∃ (s f : Nat), 1 ≤ s ∧ s + f = N ∧ i = .int .i64 s ∧ firstIn (isProof wins left club best) f s = R ∧ Below w.heap.size w wr) (fun i _ => N - (intOf i).toNat)
  case atStart => exact ⟨1, N - 1, Nat.le_refl _, by omega, rfl, HS.out, Below.refl _ _⟩
  case round =>
    obtain ⟨s, f, hs1, hsf, rfl, hS, hd⟩ := hrel
    have HS := Lib.hid hS
    have Hd := Lib.hid hd
    clear hS hd
    have e0 : wrap64 ((2 : Int) ^ wins.length) = (N : Int) := pow_wrap HN.out (by omega)
    by_cases hlt : s < N
    · obtain ⟨f, rfl⟩ : ∃ f', f = f' + 1 := ⟨f - 1, by omega⟩
      obtain ⟨y, hy⟩ : ∃ y, s / 2 ^ club = y := ⟨_, rfl⟩
      have hy64 : y < 64 := by rw [← hy]; exact Nat.lt_of_le_of_lt (Nat.div_le_self _ _) (by omega)
      have e1 : (s : Int) / 2 ^ club = (y : Int) := by rw [← hy]; exact shr_nat s club
      have e2 : bits .and .i64 (y : Int) 1 = ((y % 2 : Nat) : Int) := and_one y (by omega)
      by_cases hbit : y % 2 = 1
      · have e3 : ((y : Int) % 2 == 1) = true := by simp; omega
        have HS1 : Hid (firstIn (isProof wins left club best) f (s + 1) = R) := Lib.hid (by
          have := HS.out
          rwa [firstIn, if_neg (by rw [isProof, hy, hbit]; simp)] at this)
        have Hy := Lib.hid hy
        have Hbit := Lib.hid hbit
        clear hy hbit
        go_wp2
        go_roundw
        case rel => exact ⟨s + 1, f, by omega, by omega, by go_num, HS1.out, Hd.out⟩
        case measure => simp [intOf]; omega
      · have e3 : ((y : Int) % 2 == 1) = false := by simp; omega
        have hms : ∀ k ∈ bitsF wins.length 0 s, k < wins.length := fun k hk => by have := bitsF_lt _ _ _ _ hk; omega
        have hml := bitsF_len wins.length 0 s
        have HW : Hid (sumAt wins 0 (bitsF wins.length 0 s) = winsIn 0 s wins) := Lib.hid (sumAt_bits wins wins.length 0 s 0 (by omega))
        obtain ⟨q, hq⟩ : ∃ q : Int, ((bitsF wins.length 0 s).length : Int) * best = q := ⟨_, rfl⟩
        have hq0 : 0 ≤ q := by rw [← hq]; exact Int.mul_nonneg (by omega) hb0
        have hq1 : q ≤ 6 * 100000 := by rw [← hq]; exact Int.mul_le_mul (by omega) hb1 hb0 (by omega)
        have HS1 : Hid ((if q < gamesIn s (winsIn 0 s wins) left then s else firstIn (isProof wins left club best) f (s + 1)) = R) := Lib.hid (by
          have := HS.out
          rw [firstIn] at this
          rw [← this, isProof, hy, hq]
          simp [hbit])
        have hmc := membersOf_c wins.length s wr (by rw [HN.out]; exact hlt) (by omega)
        generalize bitsF wins.length 0 s = ms at hms hml HW hq hmc
        have wq : IntKind.i64.wrap ((ms.length : Int) * best) = q := by rw [hq]; exact IntWalk.i64_in _ (by omega)
        have hlm : (ms.map Int.ofNat).length = ms.length := by simp
        have Hy := Lib.hid hy
        have Hbit := Lib.hid hbit
        have Hms := Lib.hid hms
        have Hq := Lib.hid hq
        have Hmc := Lib.hid hmc
        clear hy hbit hms hq hmc
        go_wp2_with fail
        refine Hmc.out.mono ?_
        rintro e w2 ⟨C, cc, rfl, ho, hb2⟩
        rw [hlm]
        have Hb2 := Lib.hid (Hd.out.trans (hb2.mono Hd.out.size))
        have Ho := Lib.hid ho.ints
        have Ha2 := Lib.hid (Ha.out.keep (keep_of_below Hb2.out))
        have Hr2 := Lib.hid (Hb.out.keep (keep_of_below Hb2.out))
        clear hb2 ho hlm
        go_wp2
        go_loopw [32, 10] (fun i m wr => ∃ (j : Nat) (a : Int), j ≤ ms.length ∧ i = .int .i64 j ∧ m = .int .i64 a ∧ 0 ≤ a ∧ a ≤ 1000 * j ∧ sumAt wins a (ms.drop j) = winsIn 0 s wins ∧ Dr w2 wr) (fun i _ _ => ms.length - (intOf i).toNat)
        case atStart => exact ⟨0, 0, Nat.zero_le _, rfl, rfl, by omega, by omega, HW.out, Dr.refl _⟩
        case round =>
          obtain ⟨j, a, hj, rfl, rfl, ha0, ha1, hS2, hd2⟩ := hrel
          have HS2 := Lib.hid hS2
          have Hd2 := Lib.hid hd2
          clear hS2 hd2
          by_cases hlt2 : j < ms.length
          · obtain ⟨k, hk'⟩ := some_of hlt2
            obtain ⟨ad, rfl, hca⟩ := Ho.out.keep Hd2.out.keep j (Int.ofNat k) (map_some hk')
            have hca' : wr.cell? (ad.add j) = some (.int .i64 (k : Int)) := hca
            have hkn := Hms.out k (List.mem_of_getElem? hk')
            obtain ⟨v, hv⟩ := some_of hkn
            obtain ⟨ae, rfl, hcv⟩ := Ha2.out.keep Hd2.out.keep k v hv
            obtain ⟨v0, v1⟩ := Hw.out v (List.mem_of_getElem? hv)
            have wa : IntKind.i64.wrap (a + v) = a + v := IntWalk.i64_in _ (by omega)
            have HS2' : Hid (sumAt wins (a + v) (ms.drop (j + 1)) = winsIn 0 s wins) := Lib.hid (by
              have := HS2.out
              rw [drop_of hk', sumAt] at this
              rwa [show wins.getD k 0 = v from by simp [hv]] at this)
            have Hk' := Lib.hid hk'
            have Hv := Lib.hid hv
            clear hk' hv
            clear hca
            go_wp2
            go_roundw
            case rel => exact ⟨j + 1, a + v, by omega, by go_num, by go_num, by omega, by omega, HS2'.out, Hd2.out⟩
            case measure => simp [intOf]; omega
          · obtain rfl : j = ms.length := by omega
            have HS2' : Hid (a = winsIn 0 s wins) := Lib.hid (by have := HS2.out; rwa [List.drop_length, sumAt] at this)
            have HS3 : Hid ((if q < gamesIn s a left then s else firstIn (isProof wins left club best) f (s + 1)) = R) := Lib.hid (by rw [HS2'.out]; exact HS1.out)
            have ha2 : a ≤ 6000 := by omega
            have hfew := hg.few
            clear HS2 HS2' HW
            go_wp2
            obtain ⟨wo, hwo⟩ : ∃ wo : World, wo = wr := ⟨_, rfl⟩
            rw [← hwo] at Hd2 ⊢
            clear hwo wr
            have Hrw := Lib.hid (Hr2.out.keep Hd2.out.keep)
            have HG0 : Hid (gamesIn s a (left.drop 0) = gamesIn s a left) := Lib.hid rfl
            generalize gamesIn s a left = G at HS3 HG0
            go_loopw [45, 10] (fun i m wr => ∃ (j : Nat) (b : Int), j ≤ left.length ∧ i = .int .i64 j ∧ m = .int .i64 b ∧ 0 ≤ b ∧ b ≤ 6000 + 20 * j ∧ gamesIn s b (left.drop j) = G ∧ Dr wo wr) (fun i _ _ => left.length - (intOf i).toNat)
            case atStart => exact ⟨0, a, Nat.zero_le _, rfl, rfl, by omega, by omega, HG0.out, Dr.refl _⟩
            case round =>
              obtain ⟨j, b, hj, rfl, rfl, hb0', hb1', hS4, hd3⟩ := hrel
              have HS4 := Lib.hid hS4
              have Hd3 := Lib.hid hd3
              clear hS4 hd3
              by_cases hlt3 : j < left.length
              · obtain ⟨g, hx⟩ := some_of hlt3
                obtain ⟨bd, b', c', rfl, _, _, hca, hia⟩ := Hrw.out.keep Hd3.out.keep j g hx
                obtain ⟨x, y', z, rfl, hxy, hyn, hz1, hz2⟩ := hg.at_ hx
                obtain ⟨ad, rfl, h0, h1, h2⟩ := ints3 hia
                have wb : IntKind.i64.wrap (b + (z : Int)) = b + (z : Int) := IntWalk.i64_in _ (by omega)
                obtain ⟨u, hu⟩ : ∃ u, s / 2 ^ x = u := ⟨_, rfl⟩
                have hu64 : u < 64 := by rw [← hu]; exact Nat.lt_of_le_of_lt (Nat.div_le_self _ _) (by omega)
                have f1 : (s : Int) / 2 ^ x = (u : Int) := by rw [← hu]; exact shr_nat s x
                have f2 : bits .and .i64 (u : Int) 1 = ((u % 2 : Nat) : Int) := and_one u (by omega)
                obtain ⟨v, hv⟩ : ∃ v, s / 2 ^ y' = v := ⟨_, rfl⟩
                have hv64 : v < 64 := by rw [← hv]; exact Nat.lt_of_le_of_lt (Nat.div_le_self _ _) (by omega)
                have f3 : (s : Int) / 2 ^ y' = (v : Int) := by rw [← hv]; exact shr_nat s y'
                have f4 : bits .and .i64 (v : Int) 1 = ((v % 2 : Nat) : Int) := and_one v (by omega)
                have HS5 : Hid (gamesIn s (if u % 2 = 1 ∧ v % 2 = 1 then b + z else b) (left.drop (j + 1)) = G) := Lib.hid (by
                  have := HS4.out
                  rw [drop_of hx, gamesIn] at this
                  rw [← hu, ← hv]; exact this)
                have Hx := Lib.hid hx
                have Hu := Lib.hid hu
                have Hv := Lib.hid hv
                clear hx hu hv
                clear hia
                by_cases hu1 : u % 2 = 1
                · have f5 : ((u : Int) % 2 == 1) = true := by simp; omega
                  by_cases hv1 : v % 2 = 1
                  · have f6 : ((v : Int) % 2 == 1) = true := by simp; omega
                    have HS6 : Hid (gamesIn s (b + z) (left.drop (j + 1)) = G) := Lib.hid (by have := HS5.out; rwa [if_pos ⟨hu1, hv1⟩] at this)
                    have Hu1 := Lib.hid hu1
                    have Hv1 := Lib.hid hv1
                    clear hu1 hv1
                    go_wp2
                    go_roundw
                    case rel => exact ⟨j + 1, b + z, by omega, by go_num, by go_num, by omega, by omega, HS6.out, Hd3.out⟩
                    case measure => simp [intOf]; omega
                  · have f6 : ((v : Int) % 2 == 1) = false := by simp; omega
                    have HS6 : Hid (gamesIn s b (left.drop (j + 1)) = G) := Lib.hid (by have := HS5.out; rwa [if_neg (fun h => hv1 h.2)] at this)
                    have Hu1 := Lib.hid hu1
                    have Hv1 := Lib.hid hv1
                    clear hu1 hv1
                    go_wp2
                    go_roundw
                    case rel => exact ⟨j + 1, b, by omega, by go_num, by go_num, by omega, by omega, HS6.out, Hd3.out⟩
                    case measure => simp [intOf]; omega
                · have f5 : ((u : Int) % 2 == 1) = false := by simp; omega
                  have HS6 : Hid (gamesIn s b (left.drop (j + 1)) = G) := Lib.hid (by have := HS5.out; rwa [if_neg (fun h => hu1 h.1)] at this)
                  have Hu1 := Lib.hid hu1
                  clear hu1
                  go_wp2
                  go_roundw
                  case rel => exact ⟨j + 1, b, by omega, by go_num, by go_num, by omega, by omega, HS6.out, Hd3.out⟩
                  case measure => simp [intOf]; omega
              · obtain rfl : j = left.length := by omega
                have HG1 : Hid (b = G) := Lib.hid (by have := HS4.out; rwa [List.drop_length, gamesIn] at this)
                have HS5 : Hid ((if q < b then s else firstIn (isProof wins left club best) f (s + 1)) = R) := Lib.hid (by rw [HG1.out]; exact HS3.out)
                clear HS3 HG0 HG1 HS4
                by_cases hqb : q < b
                · have HS6 : Hid (s = R) := Lib.hid (by have := HS5.out; rwa [if_pos hqb] at this)
                  go_wp2
                  go_ret
                  exact ⟨ret_int (by rw [HS6.out]), bel_dr (bel_dr Hb2.out Hd2.out) Hd3.out⟩
                · have HS6 : Hid (firstIn (isProof wins left club best) f (s + 1) = R) := Lib.hid (by have := HS5.out; rwa [if_neg hqb] at this)
                  go_wp2
                  go_roundw
                  case rel => exact ⟨s + 1, f, by omega, by omega, by go_num, HS6.out, bel_dr (bel_dr Hb2.out Hd2.out) Hd3.out⟩
                  case measure => simp [intOf]; omega
    · obtain rfl : s = N := by omega
      obtain rfl : f = 0 := by omega
      have HS1 : Hid (0 = R) := Lib.hid (by have := HS.out; rwa [firstIn] at this)
      go_wp2
      go_ret
      exact ⟨ret_int (by rw [← HS1.out]; rfl), Hd.out⟩

set_option maxRecDepth 100000 in
set_option maxHeartbeats 4000000 in
theorem l14Proof_c (A B : Option Addr) (c d : Nat) (wins : List Int) (left : List (List Int)) (club : Nat) (w : World) (ha : Ints w A wins) (hb : Rows w B left) (hn : wins.length ≤ 6)
    (hw : ∀ v ∈ wins, 0 ≤ v ∧ v ≤ 1000) (hg : Games wins.length left) (hk : club < wins.length) :
    Calls Try.prog 53 #[.slice A wins.length c, .slice B left.length d, .int .i64 club] w (Quiet w (.int .i64 (proofAt wins left club (wins.getD club 0 + leftOf club 0 left) : Nat))) := by
  obtain ⟨best, hbest⟩ : ∃ b, wins.getD club 0 + leftOf club 0 left = b := ⟨_, rfl⟩
  rw [hbest]
  generalize hR : proofAt wins left club best = R
  have HR := Lib.hid hR
  clear hR
  obtain ⟨N, hN⟩ : ∃ N, 2 ^ wins.length = N := ⟨_, rfl⟩
  have hN64 : N ≤ 64 := by rw [← hN]; exact Nat.pow_le_pow_right (by decide) hn
  have hN1 : 1 ≤ N := by rw [← hN]; exact Nat.one_le_two_pow
  have HS : Hid (firstIn (isProof wins left club best) (N - 1) 1 = R) := Lib.hid (by rw [← hN]; exact HR.out)
  obtain ⟨v0, hv0⟩ := some_of hk
  obtain ⟨v1, v2⟩ := hw v0 (List.mem_of_getElem? hv0)
  obtain ⟨l1, l2⟩ := leftOf_bound (n := wins.length) (club : Int) left 0 hg.game
  have hfew := hg.few
  have hvb : v0 + leftOf (club : Int) 0 left = best := by rw [← hbest]; simp [hv0]
  have wv : IntKind.i64.wrap (v0 + leftOf (club : Int) 0 left) = best := by rw [← hvb]; exact IntWalk.i64_in _ (by omega)
  have hb0 : 0 ≤ best := by omega
  have hb1 : best ≤ 100000 := by omega
  obtain ⟨ad0, rfl, hca0⟩ := ha club v0 hv0
  have Ha := Lib.hid ha
  have Hb := Lib.hid hb
  have Hw := Lib.hid hw
  have HN := Lib.hid hN
  have Hvb := Lib.hid hvb
  have Hbest := Lib.hid hbest
  have Hv0 := Lib.hid hv0
  clear ha hb hw hN hvb hbest hv0
  go_enter Try.func53, Try.ntmps53
  go_wp2
  go_quiet ((go_at_call 49; exact quiet_call (l14Left_c _ _ _ _ _ (Hb.out.keep (Keep.drewN _ _)) hg)))
  go_wp2
  clear hca0
  go_loopw [8] (fun i wr => ∃ (s f : Nat), 1 ≤ s ∧ s + f = N ∧ i = .int .i64 s ∧ firstIn (isProof wins left club best) f s = R ∧ Dr w wr) (fun i _ => N - (intOf i).toNat)
  case atStart => exact ⟨1, N - 1, Nat.le_refl _, by omega, rfl, HS.out, ⟨_, rfl⟩⟩
  case round =>
    obtain ⟨s, f, hs1, hsf, rfl, hS, hd⟩ := hrel
    have HS := Lib.hid hS
    have Hd := Lib.hid hd
    clear hS hd
    have e0 : wrap64 ((2 : Int) ^ wins.length) = (N : Int) := pow_wrap HN.out (by omega)
    by_cases hlt : s < N
    · obtain ⟨f, rfl⟩ : ∃ f', f = f' + 1 := ⟨f - 1, by omega⟩
      obtain ⟨y, hy⟩ : ∃ y, s / 2 ^ club = y := ⟨_, rfl⟩
      have hy64 : y < 64 := by rw [← hy]; exact Nat.lt_of_le_of_lt (Nat.div_le_self _ _) (by omega)
      have e1 : (s : Int) / 2 ^ club = (y : Int) := by rw [← hy]; exact shr_nat s club
      have e2 : bits .and .i64 (y : Int) 1 = ((y % 2 : Nat) : Int) := and_one y (by omega)
      by_cases hbit : y % 2 = 1
      · have e3 : ((y : Int) % 2 == 1) = true := by simp; omega
        have HS1 : Hid (firstIn (isProof wins left club best) f (s + 1) = R) := Lib.hid (by
          have := HS.out
          rwa [firstIn, if_neg (by rw [isProof, hy, hbit]; simp)] at this)
        have Hy := Lib.hid hy
        have Hbit := Lib.hid hbit
        clear hy hbit
        go_wp2
        go_roundw
        case rel => exact ⟨s + 1, f, by omega, by omega, by go_num, HS1.out, Hd.out⟩
        case measure => simp [intOf]; omega
      · have e3 : ((y : Int) % 2 == 1) = false := by simp; omega
        have hml := bitsF_len wins.length 0 s
        obtain ⟨q, hq⟩ : ∃ q : Int, ((bitsF wins.length 0 s).length : Int) * best = q := ⟨_, rfl⟩
        have hq0 : 0 ≤ q := by rw [← hq]; exact Int.mul_nonneg (by omega) hb0
        have hq1 : q ≤ 6 * 100000 := by rw [← hq]; exact Int.mul_le_mul (by omega) hb1 hb0 (by omega)
        have HS1 : Hid ((if q < gamesIn s (winsIn 0 s wins) left then s else firstIn (isProof wins left club best) f (s + 1)) = R) := Lib.hid (by
          have := HS.out
          rw [firstIn] at this
          rw [← this, isProof, hy, hq]
          simp [hbit])
        have hmc := fun W => l02Bits_c wins.length s W (by rw [HN.out]; exact hlt) (by omega)
        have wq : IntKind.i64.wrap (((bitsF wins.length 0 s).length : Int) * best) = q := by rw [hq]; exact IntWalk.i64_in _ (by omega)
        generalize (bitsF wins.length 0 s).length = ml at hml hq hmc wq
        have HW : Hid (winsIn 0 (s / 2 ^ 0) (wins.drop 0) = winsIn 0 s wins) := Lib.hid (by simp)
        generalize winsIn 0 s wins = WW at HS1 HW
        have Hy := Lib.hid hy
        have Hbit := Lib.hid hbit
        have Hq := Lib.hid hq
        have Hmc := Lib.hid hmc
        clear hy hbit hq hmc
        go_wp2
        go_loopw [36, 9] (fun i m wr => ∃ (j : Nat) (a : Int), j ≤ wins.length ∧ i = .int .i64 j ∧ m = .int .i64 a ∧ 0 ≤ a ∧ a ≤ 1000 * j ∧ winsIn a (s / 2 ^ j) (wins.drop j) = WW ∧ Dr w wr) (fun i _ _ => wins.length - (intOf i).toNat)
        case atStart => exact ⟨0, 0, Nat.zero_le _, rfl, rfl, by omega, by omega, HW.out, Hd.out⟩
        case round =>
          clear Hd
          obtain ⟨j, a, hj, rfl, rfl, ha0, ha1, hS2, hd⟩ := hrel
          have HS2 := Lib.hid hS2
          have Hd := Lib.hid hd
          clear hS2 hd
          by_cases hlt2 : j < wins.length
          · obtain ⟨v, hv⟩ := some_of hlt2
            obtain ⟨ae, eae, hcv⟩ := Ha.out.keep Hd.out.keep j v hv
            obtain rfl : ad0 = ae := by injection eae
            obtain ⟨v0, v1⟩ := Hw.out v (List.mem_of_getElem? hv)
            obtain ⟨u, hu⟩ : ∃ u, s / 2 ^ j = u := ⟨_, rfl⟩
            have hu64 : u < 64 := by rw [← hu]; exact Nat.lt_of_le_of_lt (Nat.div_le_self _ _) (by omega)
            have f1 : (s : Int) / 2 ^ j = (u : Int) := by rw [← hu]; exact shr_nat s j
            have f2 : bits .and .i64 (u : Int) 1 = ((u % 2 : Nat) : Int) := and_one u (by omega)
            have wa : IntKind.i64.wrap (a + v) = a + v := IntWalk.i64_in _ (by omega)
            have HS2' : Hid (winsIn (if u % 2 = 1 then a + v else a) (s / 2 ^ (j + 1)) (wins.drop (j + 1)) = WW) := Lib.hid (by
              have := HS2.out
              rw [drop_of hv, winsIn, hu] at this
              rw [Nat.pow_succ, ← Nat.div_div_eq_div_mul, hu]; exact this)
            have Hv := Lib.hid hv
            have Hu := Lib.hid hu
            clear hv hu
            clear eae
            by_cases hu1 : u % 2 = 1
            · have f5 : ((u : Int) % 2 == 1) = true := by simp; omega
              have HS3 : Hid (winsIn (a + v) (s / 2 ^ (j + 1)) (wins.drop (j + 1)) = WW) := Lib.hid (by have := HS2'.out; rwa [if_pos hu1] at this)
              have Hu1 := Lib.hid hu1
              clear hu1
              go_wp2
              go_roundw
              case rel => exact ⟨j + 1, a + v, by omega, by go_num, by go_num, by omega, by omega, HS3.out, Hd.out⟩
              case measure => simp [intOf]; omega
            · have f5 : ((u : Int) % 2 == 1) = false := by simp; omega
              have HS3 : Hid (winsIn a (s / 2 ^ (j + 1)) (wins.drop (j + 1)) = WW) := Lib.hid (by have := HS2'.out; rwa [if_neg hu1] at this)
              have Hu1 := Lib.hid hu1
              clear hu1
              go_wp2
              go_roundw
              case rel => exact ⟨j + 1, a, by omega, by go_num, by go_num, by omega, by omega, HS3.out, Hd.out⟩
              case measure => simp [intOf]; omega
          · obtain rfl : j = wins.length := by omega
            have HS2' : Hid (a = WW) := Lib.hid (by have := HS2.out; rwa [List.drop_length, winsIn] at this)
            have HS3 : Hid ((if q < gamesIn s a left then s else firstIn (isProof wins left club best) f (s + 1)) = R) := Lib.hid (by rw [HS2'.out]; exact HS1.out)
            have ha2 : a ≤ 6000 := by omega
            clear HS2 HS2' HW
            have HG0 : Hid (gamesIn s a (left.drop 0) = gamesIn s a left) := Lib.hid rfl
            generalize gamesIn s a left = G at HS3 HG0
            go_wp2
            go_loopw [52, 9] (fun i m wr => ∃ (j : Nat) (b : Int), j ≤ left.length ∧ i = .int .i64 j ∧ m = .int .i64 b ∧ 0 ≤ b ∧ b ≤ 6000 + 20 * j ∧ gamesIn s b (left.drop j) = G ∧ Dr w wr) (fun i _ _ => left.length - (intOf i).toNat)
            case atStart => exact ⟨0, a, Nat.zero_le _, rfl, rfl, by omega, by omega, HG0.out, Hd.out⟩
            case round =>
              clear Hd
              obtain ⟨j, b, hj, rfl, rfl, hb0', hb1', hS4, hd⟩ := hrel
              have HS4 := Lib.hid hS4
              have Hd := Lib.hid hd
              clear hS4 hd
              by_cases hlt3 : j < left.length
              · obtain ⟨g, hx⟩ := some_of hlt3
                obtain ⟨bd, b', c', rfl, _, _, hca, hia⟩ := Hb.out.keep Hd.out.keep j g hx
                obtain ⟨x, y', z, rfl, hxy, hyn, hz1, hz2⟩ := hg.at_ hx
                obtain ⟨ad, rfl, h0, h1, h2⟩ := ints3 hia
                have wb : IntKind.i64.wrap (b + (z : Int)) = b + (z : Int) := IntWalk.i64_in _ (by omega)
                obtain ⟨u, hu⟩ : ∃ u, s / 2 ^ x = u := ⟨_, rfl⟩
                have hu64 : u < 64 := by rw [← hu]; exact Nat.lt_of_le_of_lt (Nat.div_le_self _ _) (by omega)
                have f1 : (s : Int) / 2 ^ x = (u : Int) := by rw [← hu]; exact shr_nat s x
                have f2 : bits .and .i64 (u : Int) 1 = ((u % 2 : Nat) : Int) := and_one u (by omega)
                obtain ⟨v, hv⟩ : ∃ v, s / 2 ^ y' = v := ⟨_, rfl⟩
                have hv64 : v < 64 := by rw [← hv]; exact Nat.lt_of_le_of_lt (Nat.div_le_self _ _) (by omega)
                have f3 : (s : Int) / 2 ^ y' = (v : Int) := by rw [← hv]; exact shr_nat s y'
                have f4 : bits .and .i64 (v : Int) 1 = ((v % 2 : Nat) : Int) := and_one v (by omega)
                have HS5 : Hid (gamesIn s (if u % 2 = 1 ∧ v % 2 = 1 then b + z else b) (left.drop (j + 1)) = G) := Lib.hid (by
                  have := HS4.out
                  rw [drop_of hx, gamesIn] at this
                  rw [← hu, ← hv]; exact this)
                have Hx := Lib.hid hx
                have Hu := Lib.hid hu
                have Hv := Lib.hid hv
                clear hx hu hv
                clear hia
                by_cases hu1 : u % 2 = 1
                · have f5 : ((u : Int) % 2 == 1) = true := by simp; omega
                  by_cases hv1 : v % 2 = 1
                  · have f6 : ((v : Int) % 2 == 1) = true := by simp; omega
                    have HS6 : Hid (gamesIn s (b + z) (left.drop (j + 1)) = G) := Lib.hid (by have := HS5.out; rwa [if_pos ⟨hu1, hv1⟩] at this)
                    have Hu1 := Lib.hid hu1
                    have Hv1 := Lib.hid hv1
                    clear hu1 hv1
                    go_wp2
                    go_roundw
                    case rel => exact ⟨j + 1, b + z, by omega, by go_num, by go_num, by omega, by omega, HS6.out, Hd.out⟩
                    case measure => simp [intOf]; omega
                  · have f6 : ((v : Int) % 2 == 1) = false := by simp; omega
                    have HS6 : Hid (gamesIn s b (left.drop (j + 1)) = G) := Lib.hid (by have := HS5.out; rwa [if_neg (fun h => hv1 h.2)] at this)
                    have Hu1 := Lib.hid hu1
                    have Hv1 := Lib.hid hv1
                    clear hu1 hv1
                    go_wp2
                    go_roundw
                    case rel => exact ⟨j + 1, b, by omega, by go_num, by go_num, by omega, by omega, HS6.out, Hd.out⟩
                    case measure => simp [intOf]; omega
                · have f5 : ((u : Int) % 2 == 1) = false := by simp; omega
                  have HS6 : Hid (gamesIn s b (left.drop (j + 1)) = G) := Lib.hid (by have := HS5.out; rwa [if_neg (fun h => hu1 h.1)] at this)
                  have Hu1 := Lib.hid hu1
                  clear hu1
                  go_wp2
                  go_roundw
                  case rel => exact ⟨j + 1, b, by omega, by go_num, by go_num, by omega, by omega, HS6.out, Hd.out⟩
                  case measure => simp [intOf]; omega
              · obtain rfl : j = left.length := by omega
                have HG1 : Hid (b = G) := Lib.hid (by have := HS4.out; rwa [List.drop_length, gamesIn] at this)
                have HS5 : Hid ((if q < b then s else firstIn (isProof wins left club best) f (s + 1)) = R) := Lib.hid (by rw [HG1.out]; exact HS3.out)
                clear HS3 HG0 HG1 HS4
                by_cases hqb : q < b
                · have HS6 : Hid (s = R) := Lib.hid (by have := HS5.out; rwa [if_pos hqb] at this)
                  go_wp2_with fail
                  refine (Hmc.out _).mono ?_
                  rintro e w4 ⟨rfl, hq4⟩
                  go_wp2
                  go_ret
                  exact ⟨ret_int (by rw [HS6.out]), Hd.out.trans hq4⟩
                · have HS6 : Hid (firstIn (isProof wins left club best) f (s + 1) = R) := Lib.hid (by have := HS5.out; rwa [if_neg hqb] at this)
                  go_wp2_with fail
                  refine (Hmc.out _).mono ?_
                  rintro e w4 ⟨rfl, hq4⟩
                  have Hq4 := Lib.hid hq4
                  clear hq4
                  go_wp2
                  go_roundw
                  case rel => exact ⟨s + 1, f, by omega, by omega, by go_num, HS6.out, Hd.out.trans Hq4.out⟩
                  case measure => simp [intOf]; omega
    · obtain rfl : s = N := by omega
      obtain rfl : f = 0 := by omega
      have HS1 : Hid (0 = R) := Lib.hid (by have := HS.out; rwa [firstIn] at this)
      go_wp2
      go_ret
      exact ⟨ret_int (by rw [← HS1.out]; rfl), Hd.out⟩
end Go.Proofs.Ytdgmmgaihgpccaa
