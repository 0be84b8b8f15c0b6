/- Contracts: ProgressOf (program). -/
import Derived.Test.YtehlijpjcjegcaaProS
namespace Go.Proofs.Ytehlijpjcjegcaa
set_option linter.unusedSimpArgs false
set_option linter.unusedVariables false
open Go.RowKit

def progTo (xs : List Int) (m : Nat) : Int := (List.range m).foldl (fun s i => s + (xs.take (i + 1)).sum) 0
theorem progTo_succ (xs : List Int) (m : Nat) : progTo xs (m + 1) = progTo xs m + (xs.take (m + 1)).sum := by
  unfold progTo
  rw [List.range_succ, List.foldl_append]; rfl

set_option maxRecDepth 100000 in
set_option maxHeartbeats 4000000 in
theorem iProgressOf_c (n : Int) (A : Option Addr) (c : Nat) (rs : List Res) (w : World) (ha : Games w A rs) (hm : rs.length ≤ 1048576) :
    Calls Try.prog 17 #[lgv n A rs.length c] w (GivesI 3 w (progF n rs)) := by
  have hb1 : Below w.heap.size w (w.alloc (.cells #[.int .i64 n, .slice A rs.length c] 29)) := (Below.refl _ _).alloc (Nat.le_refl _) _
  cases hok : leagueOk n rs
  · have hv : progF n rs = [] := by rw [progF, if_neg (by simp [hok])]
    rw [hv]
    have hac := fun W (h : Games W A rs) => addends_no 51 n A c rs W h hm hok
    unfold lgv at hac ⊢
    have Ha := Lib.hid ha
    have Hac := Lib.hid hac
    have Hb1 := Lib.hid hb1
    have Hok := Lib.hid hok
    clear ha hac hb1 hok
    clear hv
    go_enter Try.func17, Try.ntmps17
    go_wp2_with fail
    refine (Hac.out _ (Ha.out.keep (keep_of_below Hb1.out))).mono ?_
    rintro e w1 ⟨rfl, hb⟩
    have Hb := Lib.hid (Hb1.out.trans (hb.mono Hb1.out.size))
    clear hb
    go_wp2
    go_loopw [11, 3] (fun i v wr => i = .int .i64 0 ∧ v = .slice none 0 0 ∧ wr = w1) (fun i _ _ => 0)
    case atStart => exact ⟨rfl, rfl, rfl⟩
    case round =>
      obtain ⟨rfl, rfl, rfl⟩ := hrel
      go_wp2
      go_ret
      exact ⟨none, 0, rfl, Own.nil .., Hb.out⟩
  · have hL := league_of hok
    obtain ⟨n, rfl⟩ := Int.eq_ofNat_of_zero_le (show 0 ≤ n by have := hL.two; omega)
    have hn8 : n ≤ 8 := by have := hL.eight; omega
    have hac := fun W (h : Games W A rs) => addends_c fPro 51 n A c rs W h hok (enters_of Try.func51 (by kernel_rfl) rfl) (fun W' r k p _ _ h1 h2 => pro1_c W' r k p)
    have hV := addends_prog hok
    rw [← hV]
    have hrb := addendsF_rb fPro_bd hL
    have hal := addendsF_len fPro n rs
    generalize addendsF fPro n rs = xss at hac hrb hal
    unfold lgv at hac ⊢
    have hsl : (xss.map progL).length = n := by rw [List.length_map]; exact hal
    have hsa : ∀ (k : Nat) (xs : List Int), xss[k]? = some xs → (xss.map progL)[k]? = some (progL xs) := fun k xs h => map_some h
    generalize xss.map progL = S at hsl hsa
    have Ha := Lib.hid ha
    have Hac := Lib.hid hac
    have Hb1 := Lib.hid hb1
    have Hok := Lib.hid hok
    have HL := Lib.hid hL
    have Hrb := Lib.hid hrb
    have Hal := Lib.hid hal
    have Hsl := Lib.hid hsl
    have Hsa := Lib.hid hsa
    clear ha hac hb1 hok hL hrb hal hsl hsa
    clear hV
    go_enter Try.func17, Try.ntmps17
    go_wp2_with fail
    refine (Hac.out _ (Ha.out.keep (keep_of_below Hb1.out))).mono ?_
    rintro e w2 ⟨B0, d0, rfl, ho, hb⟩
    rw [Hal.out]
    have Hb2 := Lib.hid (Hb1.out.trans (hb.mono Hb1.out.size))
    have Hr := Lib.hid ho.rows
    clear ho hb
    go_wp2
    go_loopw [11, 3] (fun i v wr => ∃ (k : Nat) (B : Option Addr) (d : Nat), k ≤ n ∧ i = .int .i64 k ∧ v = .slice B k d ∧ Own 3 w2.heap.size wr.heap.size wr B d ((S.map (Value.int .i64)).take k) ∧ Below w2.heap.size w2 wr) (fun i _ _ => n - (intOf i).toNat)
    case atStart => exact ⟨0, none, 0, Nat.zero_le _, rfl, rfl, by simpa using Own.nil .., Below.refl _ _⟩
    case round =>
      obtain ⟨k, B, d, hk, rfl, rfl, ho, hd⟩ := hrel
      have Ho := Lib.hid ho
      have Hd := Lib.hid hd
      clear ho hd
      by_cases hlt : k < n
      · have hki : (k : Int) < (n : Int) := by omega
        obtain ⟨xs, hx⟩ := some_of (l := xss) (k := k) (by rw [Hal.out]; exact hlt)
        obtain ⟨hxl, hxb⟩ := Hrb.out xs (List.mem_of_getElem? hx)
        obtain ⟨ad, a, c', rfl, hcl, hcm, hca, hia⟩ := (Hr.out.keep (keep_of_below Hd.out)) k xs hx
        have hS := Hsa.out k xs hx
        have hl : ((S.map (Value.int .i64)).take k).length = k := by rw [List.length_take, List.length_map, Hsl.out]; omega
        obtain ⟨s, hs⟩ : ∃ s, progL xs = s := ⟨_, rfl⟩
        rw [hs] at hS
        obtain ⟨L, hL'⟩ : ∃ L, xs.length = L := ⟨_, rfl⟩
        obtain ⟨wp, hwp⟩ : ∃ wp : World, wp = wr := ⟨_, rfl⟩
        have hcL : L ≤ c' := by omega
        have hcm' : c' ≤ maxLen := hcm
        unfold maxLen at hcm'
        have hL120 : L ≤ 120 := by omega
        rw [hL'] at hca
        rw [← hwp] at Ho Hd hia hca ⊢
        have Hx := Lib.hid hx
        have Hxb := Lib.hid hxb
        have Hia := Lib.hid hia
        have HS := Lib.hid hS
        have Hl := Lib.hid hl
        have Hs := Lib.hid hs
        have HL' := Lib.hid hL'
        clear hx hxb hia hS hl hs hL'
        clear hwp wr hxl hcl hcm
        go_wp2
        clear hca
        go_loopw [17, 6] (fun i v wr => ∃ (j : Nat) (z : Int), j ≤ L ∧ i = .int .i64 j ∧ v = .int .i64 z ∧ 0 ≤ z ∧ z ≤ 360 * (j : Int) ∧ progTo xs j = z ∧ Dr wp wr) (fun i _ _ => L - (intOf i).toNat)
        case atStart => exact ⟨0, 0, Nat.zero_le _, rfl, rfl, by omega, by omega, rfl, Dr.refl _⟩
        case round =>
          obtain ⟨j, z, hj, rfl, rfl, hz0, hz1, hpz, hdr⟩ := hrel
          have Hpz := Lib.hid hpz
          have Hdr := Lib.hid hdr
          clear hpz hdr
          by_cases hlt2 : j < L
          · have hji : (j : Int) < (L : Int) := by omega
            obtain ⟨v0, hv0⟩ := some_of (l := xs) (k := j) (by rw [HL'.out]; exact hlt2)
            obtain ⟨g, rfl, _⟩ := Hia.out j v0 hv0
            have hc1 : j + 1 ≤ c' := by omega
            have hc2 : (j : Int) + 1 ≤ (c' : Int) := by omega
            have htl : (xs.take (j + 1)).length = j + 1 := by rw [List.length_take, HL'.out]; omega
            have hsc := sumOf_c (some g) c' (xs.take (j + 1)) wr (fun i u hu => by
              rw [List.getElem?_take] at hu
              split at hu
              · exact (Hia.out.keep Hdr.out.keep) i u hu
              · cases hu) (by omega) (fun x hx => by have := (Hxb.out x (List.mem_of_mem_take hx)); omega)
            have hsb := sum_bd (b := 3) (xs.take (j + 1)) (fun x hx => Hxb.out x (List.mem_of_mem_take hx))
            have hps := progTo_succ xs j
            rw [Hpz.out] at hps
            rw [htl] at hsc hsb
            generalize (xs.take (j + 1)).sum = y at hsc hsb hps
            have hsb0 := hsb.1
            have hsb1 := hsb.2
            have e1 : IntKind.i64.wrap (z + y) = z + y := IntWalk.i64_in _ (by omega)
            have e2 : IntKind.i64.wrap ((j : Int) + 1) = (j : Int) + 1 := IntWalk.i64_in _ (by omega)
            have Hps := Lib.hid hps
            have Hsc := Lib.hid hsc
            clear hv0 hsc hps hsb htl
            go_wp2_with fail
            refine Hsc.out.mono ?_
            rintro e w4 ⟨rfl, hq⟩
            have Hq := Lib.hid (Hdr.out.trans hq)
            clear hq
            go_wp2
            go_roundw
            case rel => exact ⟨j + 1, z + y, by omega, by go_num, by go_num, by omega, by omega, Hps.out, Hq.out⟩
            case measure => simp [intOf]; omega
          · obtain rfl : j = L := by omega
            have hzs : z = s := by rw [← Hpz.out, ← Hs.out, ← HL'.out]; rfl
            subst hzs
            have hdw := Hd.out.trans (Hdr.out.below _)
            have how := Ho.out.below (Hdr.out.below wp.heap.size)
            have hzw := (Hdr.out.below 0).size
            have Hdw := Lib.hid hdw
            have How := Lib.hid how
            clear hdw how
            clear Hd Ho
            go_wp2_with (at_builtin; refine wpList_app1 rfl (.tmp 28) (.tmp 30) 33 rfl 3 (.int .i64 0) 8 Try.underlying33 info_int rfl w2.heap.size B d ((S.map (Value.int .i64)).take k) ?_ ?_ (.int .i64 z) rfl ?_ ?_ k ?_ ?_ ?_ ?_; exact How.out.wide (Nat.le_refl _) hzw; exact Hdw.out.size; (rw [Hl.out]; omega); decide; exact Hl.out.symm; rfl; rfl; intro B2 d2 w' ho' hb' _ _; have Ho' := Lib.hid ho'; have Hb' := Lib.hid hb'; clear ho' hb')
            go_wp2
            go_roundw
            case rel => exact ⟨k + 1, B2, d2, by omega, by go_num, rfl, by rw [take_of (map_some HS.out)]; exact Ho'.out, Hdw.out.trans Hb'.out⟩
            case measure => simp [intOf]; omega
      · obtain rfl : k = n := by omega
        have ho3 := Ho.out
        rw [List.take_of_length_le (by rw [List.length_map, Hsl.out]; exact Nat.le_refl _)] at ho3
        have Ho3 := Lib.hid ho3
        clear ho3
        go_wp2
        go_ret
        exact ⟨B, d, by rw [Hsl.out]; rfl, Ho3.out.wide Hb2.out.size (Nat.le_refl _), Hb2.out.trans (Hd.out.mono Hb2.out.size)⟩


end Go.Proofs.Ytehlijpjcjegcaa
