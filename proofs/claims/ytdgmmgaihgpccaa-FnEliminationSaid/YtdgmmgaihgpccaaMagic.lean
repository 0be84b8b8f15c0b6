/- Contracts: how many wins a club needs (program and reference). -/
import Derived.Test.YtdgmmgaihgpccaaRacer
namespace Go.Proofs.Ytdgmmgaihgpccaa
open Go.RowKit

def magicFrom (left : List (List Int)) (k : Nat) (b : Int) : Int → Nat → List Int → Int
  | n, _, [] => n
  | n, j, v :: r => magicFrom left k b (if j = k then n else max n (v + leftOf (j : Int) 0 left - b)) (j + 1) r
def magicF (wins : List Int) (left : List (List Int)) (k : Int) : Int := if racer wins left k = true then magicFrom left k.toNat (wins.getD k.toNat 0) 0 0 wins else -1

set_option maxHeartbeats 2000000 in
theorem IMagicNumber_c (A B : Option Addr) (c d : Nat) (wins : List Int) (left : List (List Int)) (k : Int) (w : World) (ha : Ints w A wins) (hb : Rows w B left) (hm : wins.length ≤ 1048576) (hm2 : left.length ≤ 1048576) (hcap : left.length ≤ d) :
    Calls Try.prog 25 #[.slice A wins.length c, .slice B left.length d, .int .i64 k] w (Gives w (.int .i64 (magicF wins left k))) := by
  generalize hR : magicF wins left k = R
  have HR := Lib.hid hR
  clear hR
  have Ha := Lib.hid ha
  have Hb := Lib.hid hb
  clear ha hb
  cases h1 : racer wins left k
  · have H1 := Lib.hid h1
    clear h1
    go_enter Try.func25, Try.ntmps25
    go_wp2_with fail
    refine (gives_v (isRacer_c _ _ _ _ _ _ _ _ Ha.out Hb.out hm hm2 hcap) (congrArg Value.bool H1.out)).mono ?_
    rintro e w1 ⟨rfl, hb1⟩
    go_wp2
    go_ret
    exact ⟨ret_int (by rw [← HR.out]; simp [magicF, H1.out]), hb1⟩
  · have hrace := racer_race h1
    have hrc := hrace.games
    obtain ⟨p, rfl, hp⟩ := racer_club h1
    obtain ⟨b, hv⟩ := some_of hp
    obtain ⟨v1, v2⟩ := hrace.win b (List.mem_of_getElem? hv)
    have hfew := hrc.few
    have hlb : ∀ j : Nat, 0 ≤ leftOf (j : Int) 0 left ∧ leftOf (j : Int) 0 left ≤ 300 := fun j => by
      obtain ⟨l1, l2⟩ := leftOf_bound (n := wins.length) (j : Int) left 0 hrc.game
      omega
    have HS : Hid (magicFrom left p b 0 0 (wins.drop 0) = R) := Lib.hid (by rw [← HR.out]; simp [magicF, h1, hv])
    have hwn := hrace.win
    have H1 := Lib.hid h1
    have Hrc := Lib.hid hrc
    have Hrace := Lib.hid hrace
    have Hv := Lib.hid hv
    have Hlb := Lib.hid hlb
    have Hwn := Lib.hid hwn
    clear h1 hrc hrace hv hlb hwn
    go_enter Try.func25, Try.ntmps25
    go_wp2_with fail
    refine (gives_v (isRacer_c _ _ _ _ _ _ _ _ Ha.out Hb.out hm hm2 hcap) (congrArg Value.bool H1.out)).mono ?_
    rintro e w1 ⟨rfl, hb1⟩
    have Hb1 := Lib.hid hb1
    clear hb1
    have Ha1 := Lib.hid (Ha.out.keep (keep_of_below Hb1.out))
    have Hr1 := Lib.hid (Hb.out.keep (keep_of_below Hb1.out))
    go_wp2
    go_loopw [16, 7] (fun i m wr => ∃ (j : Nat) (n : Int), j ≤ wins.length ∧ i = .int .i64 j ∧ m = .int .i64 n ∧ 0 ≤ n ∧ n ≤ 500 ∧ magicFrom left p b n j (wins.drop j) = R ∧ Dr w1 wr) (fun i _ _ => wins.length - (intOf i).toNat)
    case atStart => exact ⟨0, 0, Nat.zero_le _, rfl, rfl, by omega, by omega, HS.out, Dr.refl _⟩
    case round =>
      obtain ⟨j, n, hj, rfl, rfl, hn0, hn1, hS, hd⟩ := hrel
      have HS := Lib.hid hS
      have Hd := Lib.hid hd
      clear hS hd
      by_cases hlt : j < wins.length
      · obtain ⟨v, hx⟩ := some_of hlt
        obtain ⟨ad, rfl, hca⟩ := Ha1.out.keep Hd.out.keep j v hx
        obtain ⟨ad', e', hcb⟩ := Ha1.out.keep Hd.out.keep p b Hv.out
        obtain rfl : ad = ad' := by injection e'
        obtain ⟨v3, v4⟩ := Hwn.out v (List.mem_of_getElem? hx)
        obtain ⟨l1, l2⟩ := Hlb.out j
        have wa : IntKind.i64.wrap (v + leftOf (j : Int) 0 left) = v + leftOf (j : Int) 0 left := IntWalk.i64_in _ (by omega)
        have wb : IntKind.i64.wrap (v + leftOf (j : Int) 0 left - b) = v + leftOf (j : Int) 0 left - b := IntWalk.i64_in _ (by omega)
        have HS1 : Hid (magicFrom left p b (if j = p then n else max n (v + leftOf (j : Int) 0 left - b)) (j + 1) (wins.drop (j + 1)) = R) := Lib.hid (by have := HS.out; rwa [drop_of hx, magicFrom] at this)
        have Hx := Lib.hid hx
        clear hx
        by_cases e0 : j = p
        · have e0' : ((j : Int) != (p : Int)) = false := by simp; omega
          have HS2 : Hid (magicFrom left p b n (j + 1) (wins.drop (j + 1)) = R) := Lib.hid (by have := HS1.out; rwa [if_pos e0] at this)
          have E0 := Lib.hid e0
          clear e0
          go_wp2
          go_roundw
          case rel => exact ⟨j + 1, n, by omega, by go_num, by go_num, by omega, by omega, HS2.out, Hd.out⟩
          case measure => simp [intOf]; omega
        · have e0' : ((j : Int) != (p : Int)) = true := by simp; omega
          have HS2 : Hid (magicFrom left p b (max n (v + leftOf (j : Int) 0 left - b)) (j + 1) (wins.drop (j + 1)) = R) := Lib.hid (by have := HS1.out; rwa [if_neg e0] at this)
          have E0 := Lib.hid e0
          clear e0
          go_wp2
          go_quiet ((go_at_call 51; exact quiet_call (gamesLeft_c _ _ _ _ _ ((Hr1.out.keep Hd.out.keep).keep (Keep.drewN _ _)) Hrc.out)))
          go_wp2
          all_goals
            go_roundw
            case rel => exact ⟨j + 1, max n (v + leftOf (j : Int) 0 left - b), by omega, by go_num, by go_num, by omega, by omega, HS2.out, Hd.out.dN _⟩
            case measure => simp [intOf]; omega
      · obtain rfl : j = wins.length := by omega
        have HS1 : Hid (n = R) := Lib.hid (by have := HS.out; rwa [List.drop_length, magicFrom] at this)
        go_wp2
        go_ret
        exact ⟨ret_int HS1.out, below_dr Hb1.out Hd.out⟩

set_option maxHeartbeats 2000000 in
theorem SMagicNumber_c (A B : Option Addr) (c d : Nat) (wins : List Int) (left : List (List Int)) (k : Int) (w : World) (ha : Ints w A wins) (hb : Rows w B left) (hm : wins.length ≤ 1048576) (hm2 : left.length ≤ 1048576) (hcap : left.length ≤ d) :
    Calls Try.prog 24 #[.slice A wins.length c, .slice B left.length d, .int .i64 k] w (Gives w (.int .i64 (magicF wins left k))) := by
  generalize hR : magicF wins left k = R
  have HR := Lib.hid hR
  clear hR
  have Ha := Lib.hid ha
  have Hb := Lib.hid hb
  clear ha hb
  cases h1 : racer wins left k
  · have H1 := Lib.hid h1
    clear h1
    go_enter Try.func24, Try.ntmps24
    go_wp2_with fail
    refine (gives_v (l14Ok_c _ _ _ _ _ _ _ _ Ha.out Hb.out hm hm2 hcap) (congrArg Value.bool H1.out)).mono ?_
    rintro e w1 ⟨rfl, hb1⟩
    go_wp2
    go_ret
    exact ⟨ret_int (by rw [← HR.out]; simp [magicF, H1.out]), hb1⟩
  · have hrace := racer_race h1
    have hrc := hrace.games
    obtain ⟨p, rfl, hp⟩ := racer_club h1
    obtain ⟨b, hv⟩ := some_of hp
    obtain ⟨v1, v2⟩ := hrace.win b (List.mem_of_getElem? hv)
    have hfew := hrc.few
    have hlb : ∀ j : Nat, 0 ≤ leftOf (j : Int) 0 left ∧ leftOf (j : Int) 0 left ≤ 300 := fun j => by
      obtain ⟨l1, l2⟩ := leftOf_bound (n := wins.length) (j : Int) left 0 hrc.game
      omega
    have HS : Hid (magicFrom left p b 0 0 (wins.drop 0) = R) := Lib.hid (by rw [← HR.out]; simp [magicF, h1, hv])
    have hwn := hrace.win
    have H1 := Lib.hid h1
    have Hrc := Lib.hid hrc
    have Hrace := Lib.hid hrace
    have Hv := Lib.hid hv
    have Hlb := Lib.hid hlb
    have Hwn := Lib.hid hwn
    clear h1 hrc hrace hv hlb hwn
    go_enter Try.func24, Try.ntmps24
    go_wp2_with fail
    refine (gives_v (l14Ok_c _ _ _ _ _ _ _ _ Ha.out Hb.out hm hm2 hcap) (congrArg Value.bool H1.out)).mono ?_
    rintro e w1 ⟨rfl, hb1⟩
    have Hb1 := Lib.hid hb1
    clear hb1
    have Ha1 := Lib.hid (Ha.out.keep (keep_of_below Hb1.out))
    have Hr1 := Lib.hid (Hb.out.keep (keep_of_below Hb1.out))
    go_wp2
    go_loopw [17, 7] (fun i m wr => ∃ (j : Nat) (n : Int), j ≤ wins.length ∧ i = .int .i64 j ∧ m = .int .i64 n ∧ 0 ≤ n ∧ n ≤ 500 ∧ magicFrom left p b n j (wins.drop j) = R ∧ Dr w1 wr) (fun i _ _ => wins.length - (intOf i).toNat)
    case atStart => exact ⟨0, 0, Nat.zero_le _, rfl, rfl, by omega, by omega, HS.out, Dr.refl _⟩
    case round =>
      obtain ⟨j, n, hj, rfl, rfl, hn0, hn1, hS, hd⟩ := hrel
      have HS := Lib.hid hS
      have Hd := Lib.hid hd
      clear hS hd
      by_cases hlt : j < wins.length
      · obtain ⟨v, hx⟩ := some_of hlt
        obtain ⟨ad, rfl, hca⟩ := Ha1.out.keep Hd.out.keep j v hx
        obtain ⟨ad', e', hcb⟩ := Ha1.out.keep Hd.out.keep p b Hv.out
        obtain rfl : ad = ad' := by injection e'
        obtain ⟨v3, v4⟩ := Hwn.out v (List.mem_of_getElem? hx)
        obtain ⟨l1, l2⟩ := Hlb.out j
        have wa : IntKind.i64.wrap (v + leftOf (j : Int) 0 left) = v + leftOf (j : Int) 0 left := IntWalk.i64_in _ (by omega)
        have wb : IntKind.i64.wrap (v + leftOf (j : Int) 0 left - b) = v + leftOf (j : Int) 0 left - b := IntWalk.i64_in _ (by omega)
        have HS1 : Hid (magicFrom left p b (if j = p then n else max n (v + leftOf (j : Int) 0 left - b)) (j + 1) (wins.drop (j + 1)) = R) := Lib.hid (by have := HS.out; rwa [drop_of hx, magicFrom] at this)
        have Hx := Lib.hid hx
        clear hx
        by_cases e0 : j = p
        · have e0' : ((j : Int) != (p : Int)) = false := by simp; omega
          have HS2 : Hid (magicFrom left p b n (j + 1) (wins.drop (j + 1)) = R) := Lib.hid (by have := HS1.out; rwa [if_pos e0] at this)
          have E0 := Lib.hid e0
          clear e0
          go_wp2
          go_roundw
          case rel => exact ⟨j + 1, n, by omega, by go_num, by go_num, by omega, by omega, HS2.out, Hd.out⟩
          case measure => simp [intOf]; omega
        · have e0' : ((j : Int) != (p : Int)) = true := by simp; omega
          have HS2 : Hid (magicFrom left p b (max n (v + leftOf (j : Int) 0 left - b)) (j + 1) (wins.drop (j + 1)) = R) := Lib.hid (by have := HS1.out; rwa [if_neg e0] at this)
          have E0 := Lib.hid e0
          clear e0
          go_wp2
          go_quiet ((go_at_call 49; exact quiet_call (l14Left_c _ _ _ _ _ ((Hr1.out.keep Hd.out.keep).keep (Keep.drewN _ _)) Hrc.out)))
          go_wp2
          all_goals
            go_roundw
            case rel => exact ⟨j + 1, max n (v + leftOf (j : Int) 0 left - b), by omega, by go_num, by go_num, by omega, by omega, HS2.out, Hd.out.dN _⟩
            case measure => simp [intOf]; omega
      · obtain rfl : j = wins.length := by omega
        have HS1 : Hid (n = R) := Lib.hid (by have := HS.out; rwa [List.drop_length, magicFrom] at this)
        go_wp2
        go_ret
        exact ⟨ret_int HS1.out, below_dr Hb1.out Hd.out⟩

end Go.Proofs.Ytdgmmgaihgpccaa
