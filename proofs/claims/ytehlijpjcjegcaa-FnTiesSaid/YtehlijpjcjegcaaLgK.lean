/- Contracts: who has as many points as a club (program and reference). -/
import Derived.Test.YtehlijpjcjegcaaLgJ
import Derived.Test.YtehlijpjcjegcaaBit0
namespace Go.Proofs.Ytehlijpjcjegcaa
set_option linter.unusedSimpArgs false
set_option linter.unusedVariables false
open Go.RowKit

theorem or_add {s k : Nat} (h : s < 2 ^ k) (hk : k ≤ 60) : bits .or .i64 (s : Int) ((2 ^ k : Nat) : Int) = ((s + 2 ^ k : Nat) : Int) := by
  have h1 : 2 ^ k ≤ 2 ^ 60 := Nat.pow_le_pow_right (by decide) hk
  rw [i64_or_nat s (2 ^ k) (by omega) (by omega), Nat.or_comm]
  have := Nat.two_pow_add_eq_or_of_lt h 1
  rw [Nat.mul_one] at this
  rw [← this, Nat.add_comm]
def tieFrom (l : List Int) (x : Int) : Nat → Nat → Nat → Nat
  | 0, _, s => s
  | f + 1, j, s => tieFrom l x f (j + 1) (if l.getD j 0 = x then s + 2 ^ j else s)
def tiedOf (l : List Int) (k : Nat) : Nat := tieFrom l (l.getD k 0) l.length 0 0
def tiedF (n : Int) (rs : List Res) (k : Int) : Nat := if leagueOk n rs = true ∧ inR k 0 (n - 1) = true then tiedOf (pointsF n.toNat rs) k.toNat else 0

set_option maxHeartbeats 2000000 in
theorem l13Tied_c (A : Option Addr) (c : Nat) (l : List Int) (k : Nat) (w : World) (ha : Ints w A l) (hl : l.length ≤ 8) (hk : k < l.length) :
    Calls Try.prog 41 #[.slice A l.length c, .int .i64 (k : Int)] w (Quiet w (.int .i64 (tiedOf l k : Nat))) := by
  generalize hR : tiedOf l k = R
  have HR := Lib.hid hR
  clear hR
  obtain ⟨x, hx⟩ := some_of hk
  have hxg : l.getD k 0 = x := by rw [List.getD_eq_getElem?_getD, hx]; rfl
  have HS : Hid (tieFrom l x l.length 0 0 = R) := Lib.hid (by rw [← HR.out, tiedOf, hxg])
  have hki : (k : Int) < (l.length : Int) := by omega
  have Ha := Lib.hid ha
  have Hx := Lib.hid hx
  have Hxg := Lib.hid hxg
  clear ha hx hxg
  clear HR
  go_enter Try.func41, Try.ntmps41
  go_wp2
  go_loopw [10, 5] (fun i m wr => ∃ (j s f : Nat), j + f = l.length ∧ i = .int .i64 j ∧ m = .int .i64 s ∧ s < 2 ^ j ∧ tieFrom l x f j s = R ∧ Dr w wr) (fun i _ _ => l.length - (intOf i).toNat)
  case atStart => exact ⟨0, 0, l.length, by omega, rfl, rfl, by decide, HS.out, Dr.refl _⟩
  case round =>
    obtain ⟨j, s, f, hj, rfl, rfl, hs, hS, hd⟩ := hrel
    have HS := Lib.hid hS
    have Hd := Lib.hid hd
    have Hs := Lib.hid hs
    clear hS hd hs
    by_cases hlt : j < l.length
    · obtain ⟨f, rfl⟩ : ∃ f', f = f' + 1 := ⟨f - 1, by omega⟩
      obtain ⟨M, hM⟩ : ∃ M, 2 ^ j = M := ⟨_, rfl⟩
      have hM64 : M ≤ 256 := by rw [← hM]; exact Nat.pow_le_pow_right (by decide) (by omega : j ≤ 8)
      have hsM : s < M := by rw [← hM]; exact Hs.out
      have e0 : wrap64 ((2 : Int) ^ j) = (M : Int) := pow_wrap hM (by omega)
      have e1 : IntKind.i64.wrap ((s : Int) + (M : Int)) = (s : Int) + (M : Int) := IntWalk.i64_in _ (by omega)
      have HM1 : Hid (2 ^ (j + 1) = 2 * M) := Lib.hid (by rw [Nat.pow_succ, hM]; omega)
      obtain ⟨y, hy⟩ := some_of (l := l) (k := j) hlt
      have hyg : l.getD j 0 = y := by rw [List.getD_eq_getElem?_getD, hy]; rfl
      have HS1 : Hid (tieFrom l x f (j + 1) (if y = x then s + M else s) = R) := Lib.hid (by have := HS.out; rwa [tieFrom, hM, hyg] at this)
      obtain ⟨ad, rfl, hcy⟩ := (Ha.out.keep Hd.out.keep) j y hy
      obtain ⟨ad2, e2, hcx⟩ := (Ha.out.keep Hd.out.keep) k x Hx.out
      obtain rfl : ad = ad2 := by injection e2
      clear e2
      have HM := Lib.hid hM
      have Hy := Lib.hid hy
      have Hyg := Lib.hid hyg
      clear hM hy hyg
      by_cases hxy : y = x
      · have e3 : (y == x) = true := by simp [hxy]
        have HS2 : Hid (tieFrom l x f (j + 1) (s + M) = R) := Lib.hid (by have := HS1.out; rwa [if_pos hxy] at this)
        have Hxy := Lib.hid hxy
        clear hxy
        clear HS HS1
        go_wp2
        go_roundw
        case rel => exact ⟨j + 1, s + M, f, by omega, by go_num, by go_num, by rw [HM1.out]; omega, HS2.out, Hd.out⟩
        case measure => simp [intOf]; omega
      · have e3 : (y == x) = false := by simp [hxy]
        have HS2 : Hid (tieFrom l x f (j + 1) s = R) := Lib.hid (by have := HS1.out; rwa [if_neg hxy] at this)
        have Hxy := Lib.hid hxy
        clear hxy
        clear HS HS1
        go_wp2
        go_roundw
        case rel => exact ⟨j + 1, s, f, by omega, by go_num, rfl, by rw [HM1.out]; omega, HS2.out, Hd.out⟩
        case measure => simp [intOf]; omega
    · obtain rfl : f = 0 := by omega
      have HS1 : Hid (s = R) := Lib.hid (by have := HS.out; rwa [tieFrom] at this)
      go_wp2
      go_ret
      exact ⟨ret_int (by rw [HS1.out]), Hd.out⟩

set_option maxHeartbeats 2000000 in
theorem tied_c (n : Nat) (A : Option Addr) (c : Nat) (rs : List Res) (k : Nat) (w : World) (ha : Games w A rs) (hok : leagueOk n rs = true) (hk : k < n) :
    Calls Try.prog 46 #[lgv n A rs.length c, .int .i64 (k : Int)] w (Gives w (.int .i64 (tiedOf (pointsF n rs) k : Nat))) := by
  generalize hR : tiedOf (pointsF n rs) k = R
  have HR := Lib.hid hR
  clear hR
  have hL := league_of hok
  have hn8 : n ≤ 8 := by have := hL.eight; omega
  have hpl : (pointsF n rs).length = n := (ptFold_bnd rs _ 0 (bnd_zeros n 0 (Int.le_refl _)) hL.ok).len
  have hpc := fun W (h : Games W A rs) => points_c n A c rs W h hok
  obtain ⟨l, hl⟩ : ∃ l, pointsF n rs = l := ⟨_, rfl⟩
  rw [hl] at HR hpl hpc
  obtain ⟨x, hx⟩ := some_of (l := l) (k := k) (by omega)
  have hxg : l.getD k 0 = x := by rw [List.getD_eq_getElem?_getD, hx]; rfl
  have HS : Hid (tieFrom l x n 0 0 = R) := Lib.hid (by rw [← HR.out, tiedOf, hxg, hpl])
  have hki : (k : Int) < (n : Int) := by omega
  unfold lgv at hpc ⊢
  obtain ⟨m, hm⟩ : ∃ m, rs.length = m := ⟨_, rfl⟩
  rw [hm] at hpc ⊢
  obtain ⟨b0, b1⟩ := box2 w (.int .i64 (n : Int)) (.slice A m c) 29
  have hbw : Below w.heap.size w (w.alloc (.cells #[.int .i64 (n : Int), .slice A m c] 29)) := (Below.refl _ _).alloc (Nat.le_refl _) _
  have hg0 := ha.keep (keep_of_below hbw)
  have Ha := Lib.hid ha
  have Hx := Lib.hid hx
  have Hxg := Lib.hid hxg
  have HL := Lib.hid hL
  have Hl := Lib.hid hl
  have Hpc := Lib.hid hpc
  have Hbw := Lib.hid hbw
  have Hpl := Lib.hid hpl
  have Hm := Lib.hid hm
  have Hg0 := Lib.hid hg0
  clear ha hx hxg hL hl hpc hbw hpl hm hg0
  clear HR hok
  go_enter Try.func46, Try.ntmps46
  go_wp2_with fail
  refine (Hpc.out _ Hg0.out).mono ?_
  rintro e w1 ⟨B, d, rfl, ho, hb⟩
  have hi1 := ho.ints
  have c0 := keep_of_below hb _ _ b0
  have c1 := keep_of_below hb _ _ b1
  have hb1 := Hbw.out.trans (hb.mono Hbw.out.size)
  have hkw := keep_of_below hb1
  have C0 := Lib.hid c0
  have C1 := Lib.hid c1
  have Hi1 := Lib.hid hi1
  have Hb1 := Lib.hid hb1
  have Hkw := Lib.hid hkw
  clear hi1 hb1 hkw
  clear ho hb b0 b1 Hbw
  rw [Hpl.out]
  go_wp2
  clear c0 c1
  go_loopw [11, 5] (fun i m wr => ∃ (j s f : Nat), j + f = n ∧ i = .int .i64 j ∧ m = .int .i64 s ∧ s < 2 ^ j ∧ tieFrom l x f j s = R ∧ Below w1.heap.size w1 wr) (fun i _ _ => n - (intOf i).toNat)
  case atStart => exact ⟨0, 0, n, by omega, rfl, rfl, by decide, HS.out, Below.refl _ _⟩
  case round =>
    clear HS
    obtain ⟨j, s, f, hj, rfl, rfl, hs, hS, hd⟩ := hrel
    have HS := Lib.hid hS
    have Hd := Lib.hid hd
    have Hs := Lib.hid hs
    clear hS hd hs
    by_cases hlt : j < n
    · obtain ⟨f, rfl⟩ : ∃ f', f = f' + 1 := ⟨f - 1, by omega⟩
      have hji : (j : Int) < (n : Int) := by omega
      obtain ⟨M, hM⟩ : ∃ M, 2 ^ j = M := ⟨_, rfl⟩
      have hM64 : M ≤ 256 := by rw [← hM]; exact Nat.pow_le_pow_right (by decide) (by omega : j ≤ 8)
      have hsM : s < M := by rw [← hM]; exact Hs.out
      have e0 : wrap64 ((2 : Int) ^ j) = (M : Int) := pow_wrap hM (by omega)
      have e1 : bits .or .i64 (s : Int) (M : Int) = ((s + M : Nat) : Int) := by rw [← hM]; exact or_add Hs.out (by omega)
      have HM1 : Hid (2 ^ (j + 1) = 2 * M) := Lib.hid (by rw [Nat.pow_succ, hM]; omega)
      obtain ⟨y, hy⟩ := some_of (l := l) (k := j) (by rw [Hpl.out]; exact hlt)
      have hyg : l.getD j 0 = y := by rw [List.getD_eq_getElem?_getD, hy]; rfl
      have HS1 : Hid (tieFrom l x f (j + 1) (if y = x then s + M else s) = R) := Lib.hid (by have := HS.out; rwa [tieFrom, hM, hyg] at this)
      have hkd := keep_of_below Hd.out
      obtain ⟨ad, rfl, hcy⟩ := (Hi1.out.keep hkd) j y hy
      have c0 := hkd _ _ C0.out
      have c1 := hkd _ _ C1.out
      have hgw := Ha.out.keep (Hkw.out.trans hkd)
      have HM := Lib.hid hM
      have Hy := Lib.hid hy
      have Hyg := Lib.hid hyg
      have Hgw := Lib.hid hgw
      clear hM hy hyg hgw
      clear hkd
      go_wp2_with fail
      refine (Hpc.out wr Hgw.out).mono ?_
      rintro e w4 ⟨B2, d2, rfl, ho2, hb2⟩
      obtain ⟨ad2, rfl, hcx⟩ := ho2.ints k x Hx.out
      have hd4 := Hd.out.trans (hb2.mono Hd.out.size)
      have Hd4 := Lib.hid hd4
      clear hd4
      clear ho2 hb2 c0 c1 hcy
      rw [Hpl.out]
      by_cases hxy : y = x
      · have e3 : (y == x) = true := by simp [hxy]
        have HS2 : Hid (tieFrom l x f (j + 1) (s + M) = R) := Lib.hid (by have := HS1.out; rwa [if_pos hxy] at this)
        have Hxy := Lib.hid hxy
        clear hxy
        clear HS HS1
        go_wp2
        go_roundw
        case rel => exact ⟨j + 1, s + M, f, by omega, by go_num, by go_num, by rw [HM1.out]; omega, HS2.out, Hd4.out⟩
        case measure => simp [intOf]; omega
      · have e3 : (y == x) = false := by simp [hxy]
        have HS2 : Hid (tieFrom l x f (j + 1) s = R) := Lib.hid (by have := HS1.out; rwa [if_neg hxy] at this)
        have Hxy := Lib.hid hxy
        clear hxy
        clear HS HS1
        go_wp2
        go_roundw
        case rel => exact ⟨j + 1, s, f, by omega, by go_num, rfl, by rw [HM1.out]; omega, HS2.out, Hd4.out⟩
        case measure => simp [intOf]; omega
    · obtain rfl : f = 0 := by omega
      have HS1 : Hid (s = R) := Lib.hid (by have := HS.out; rwa [tieFrom] at this)
      go_wp2
      go_ret
      exact ⟨ret_int (by rw [HS1.out]), Hb1.out.trans (Hd.out.mono Hb1.out.size)⟩
end Go.Proofs.Ytehlijpjcjegcaa
