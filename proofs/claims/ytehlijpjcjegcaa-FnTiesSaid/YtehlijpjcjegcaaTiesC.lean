/- Contracts for the law on ties: sum, bits, the away goals' winner. -/
import Derived.Test.YtehlijpjcjegcaaTiesR
import Derived.Test.YtehlijpjcjegcaaTabI
import Derived.Test.YtehlijpjcjegcaaIdx
import Derived.Test.YtehlijpjcjegcaaScan
namespace Go.Proofs.Ytehlijpjcjegcaa
set_option linter.unusedVariables false
set_option linter.unusedSimpArgs false
open Go.RowKit

set_option maxHeartbeats 1000000 in
theorem lsum_c (A : Option Addr) (c : Nat) (xs : List Int) (w : World) (ha : Ints w A xs) (hm : xs.length ≤ 1000) (hx : ∀ x ∈ xs, 0 ≤ x ∧ x ≤ 1000000) :
    Calls Try.prog 37 #[.slice A xs.length c] w (Quiet w (.int .i64 xs.sum)) := by
  generalize hR : xs.sum = R
  have HR := Lib.hid hR
  clear hR
  have Ha := Lib.hid ha
  have Hx := Lib.hid hx
  clear ha hx
  go_enter Try.func37, Try.ntmps37
  go_wp2
  go_loopw [3, 8] (fun s i wr => ∃ (k : Nat) (z : Int), k ≤ xs.length ∧ i = .int .i64 k ∧ s = .int .i64 z ∧ 0 ≤ z ∧ z ≤ 1000000 * k ∧ z + (xs.drop k).sum = R ∧ Dr w wr) (fun _ i _ => xs.length - (intOf i).toNat)
  case atStart => exact ⟨0, 0, Nat.zero_le _, rfl, rfl, Int.le_refl _, by omega, by have := HR.out; rw [List.drop_zero]; omega, Dr.refl _⟩
  case round =>
    obtain ⟨k, z, hk, rfl, rfl, z0, z1, hS, hd⟩ := hrel
    by_cases hlt : k < xs.length
    · obtain ⟨v, hv⟩ := some_of hlt
      obtain ⟨ad, rfl, hc⟩ := Ha.out.keep hd.keep k v hv
      obtain ⟨v0, v1⟩ := Hx.out v (List.mem_of_getElem? hv)
      have hS2 : (z + v) + (xs.drop (k + 1)).sum = R := by rw [drop_of hv, List.sum_cons] at hS; omega
      have e1 : IntKind.i64.wrap (z + v) = z + v := IntWalk.i64_in _ (by omega)
      have HS := Lib.hid hS
      have HS2 := Lib.hid hS2
      have Hd := Lib.hid hd
      have Hv := Lib.hid hv
      clear hS hS2 hd hv
      go_wp2
      go_roundw
      case rel => exact ⟨k + 1, z + v, by omega, by go_num, rfl, by omega, by omega, HS2.out, Hd.out⟩
      case measure => simp [intOf]; omega
    · obtain rfl : k = xs.length := by omega
      have hS2 : z = R := by rw [List.drop_length, List.sum_nil] at hS; omega
      have HS := Lib.hid hS
      have HS2 := Lib.hid hS2
      have Hd := Lib.hid hd
      clear hS hS2 hd
      go_wp2
      go_ret
      exact ⟨ret_int HS2.out, Hd.out⟩
/-! ### cmp.Or of two; the away goals' winner -/
def or2 (x y : Int) : Int := if x = 0 then y else x
set_option maxHeartbeats 1000000 in
theorem cmpOr2_c (A : Option Addr) (c : Nat) (x y : Int) (w : World) (ha : Ints w A [x, y]) : Calls Try.prog 75 #[.slice A 2 c] w (Quiet w (.int .i64 (or2 x y))) := by
  generalize hR : or2 x y = R
  have HR := Lib.hid hR
  clear hR
  have Ha := Lib.hid ha
  clear ha
  go_enter Try.func75, Try.ntmps75
  go_wp2
  go_loopw [8] (fun i wr => ∃ k : Nat, i = .int .i64 k ∧ (k = 0 ∨ (k = 1 ∧ x = 0) ∨ (k = 2 ∧ x = 0 ∧ y = 0)) ∧ Dr w wr) (fun i _ => 2 - (intOf i).toNat)
  case atStart => exact ⟨0, rfl, .inl rfl, Dr.refl _⟩
  case round =>
    obtain ⟨k, rfl, hc, hd⟩ := hrel
    by_cases hlt : k < 2
    · have hki : (k : Int) < 2 := by omega
      obtain ⟨v, hv⟩ := some_of (l := [x, y]) (k := k) (by simpa using hlt)
      obtain ⟨ad, rfl, hcv⟩ := (Ha.out.keep hd.keep) k v hv
      have hval : (k = 0 ∧ v = x) ∨ (k = 1 ∧ v = y) := by
        have : k = 0 ∨ k = 1 := by omega
        rcases this with rfl | rfl <;> simp at hv <;> simp [hv]
      by_cases hv0 : v = 0
      · have e1 : (v != 0) = false := by simp [hv0]
        have hn : (k + 1 = 0 ∨ (k + 1 = 1 ∧ x = 0) ∨ (k + 1 = 2 ∧ x = 0 ∧ y = 0)) := by omega
        have Hn := Lib.hid hn
        have Hv := Lib.hid hv
        have Hv0 := Lib.hid hv0
        have Hval := Lib.hid hval
        have Hc := Lib.hid hc
        have Hd := Lib.hid hd
        clear hn hv hv0 hval hc hd
        go_wp2
        go_roundw
        case rel => exact ⟨k + 1, by go_num, Hn.out, Hd.out⟩
        case measure => simp [intOf]; omega
      · have e1 : (v != 0) = true := by simpa using hv0
        have hRv : v = R := by
          rw [← HR.out, or2]
          rcases hval with ⟨h, e⟩ | ⟨h, e⟩ <;> subst e
          · rw [if_neg hv0]
          · rw [if_pos (by omega)]
        have Hv := Lib.hid hv
        have Hv0 := Lib.hid hv0
        have Hval := Lib.hid hval
        have Hc := Lib.hid hc
        have Hd := Lib.hid hd
        have HRv := Lib.hid hRv
        clear hv hv0 hval hc hd hRv
        go_wp2
        go_ret
        exact ⟨ret_int HRv.out, Hd.out⟩
    · have hRv : 0 = R := by rw [← HR.out, or2, if_pos (by omega)]; omega
      have Hc := Lib.hid hc
      have Hd := Lib.hid hd
      have HRv := Lib.hid hRv
      clear hc hd hRv
      go_wp2
      go_ret
      exact ⟨ret_int HRv.out, Hd.out⟩
theorem ints_of4 (w : World) (x y z t : Int) : Ints (w.alloc (.cells #[.int .i64 x, .int .i64 y, .int .i64 z, .int .i64 t] 3)) (some ⟨w.heap.size, 0, none⟩) [x, y, z, t] :=
  Own.ints (T := 3) (lo := w.heap.size) (hi := w.heap.size + 1) (c := 4) ⟨by simp, by unfold maxLen; omega, .inr ⟨w.heap.size, _, rfl, Nat.le_refl _, Nat.lt_succ_self _, heap_alloc_new w _, rfl, rfl⟩⟩
theorem ints_of2 (w : World) (x y : Int) : Ints (w.alloc (.cells #[.int .i64 x, .int .i64 y] 3)) (some ⟨w.heap.size, 0, none⟩) [x, y] :=
  Own.ints (T := 3) (lo := w.heap.size) (hi := w.heap.size + 1) (c := 2) ⟨by simp, by unfold maxLen; omega, .inr ⟨w.heap.size, _, rfl, Nat.le_refl _, Nat.lt_succ_self _, heap_alloc_new w _, rfl, rfl⟩⟩
def awayF (h k g t p q : Int) : Int := if or2 (cmpI (g + q) (t + p)) (cmpI q t) = 1 then h else if or2 (cmpI (g + q) (t + p)) (cmpI q t) = -1 then k else -1
set_option maxRecDepth 100000 in
set_option maxHeartbeats 4000000 in
theorem away_c (h k g t p q : Int) (w : World) (hk : h ≠ k) (hg : 0 ≤ g ∧ g ≤ 99) (ht : 0 ≤ t ∧ t ≤ 99) (hp : 0 ≤ p ∧ p ≤ 99) (hq : 0 ≤ q ∧ q ≤ 99) :
    Calls Try.prog 38 #[.agg #[.int .i64 h, .int .i64 k, .int .i64 g, .int .i64 t], .agg #[.int .i64 k, .int .i64 h, .int .i64 p, .int .i64 q]] w (Gives w (.int .i64 (awayF h k g t p q))) := by
  obtain ⟨R, hR⟩ : ∃ R, awayF h k g t p q = R := ⟨_, rfl⟩
  rw [hR]
  obtain ⟨a0, a1, a2, a3⟩ := box4 w (.int .i64 h) (.int .i64 k) (.int .i64 g) (.int .i64 t) 47
  have hb1 : Below w.heap.size w (w.alloc (.cells #[.int .i64 h, .int .i64 k, .int .i64 g, .int .i64 t] 47)) := (Below.refl _ _).alloc (Nat.le_refl _) _
  have hz1 : (w.alloc (.cells #[.int .i64 h, .int .i64 k, .int .i64 g, .int .i64 t] 47)).heap.size = w.heap.size + 1 := by simp
  obtain ⟨w1, hw1⟩ : ∃ w1, w.alloc (.cells #[.int .i64 h, .int .i64 k, .int .i64 g, .int .i64 t] 47) = w1 := ⟨_, rfl⟩
  rw [hw1] at a0 a1 a2 a3 hb1 hz1
  obtain ⟨b0, b1, b2, b3⟩ := box4 w1 (.int .i64 k) (.int .i64 h) (.int .i64 p) (.int .i64 q) 47
  have hb2 : Below w1.heap.size w1 (w1.alloc (.cells #[.int .i64 k, .int .i64 h, .int .i64 p, .int .i64 q] 47)) := (Below.refl _ _).alloc (Nat.le_refl _) _
  obtain ⟨w2, hw2⟩ : ∃ w2, w1.alloc (.cells #[.int .i64 k, .int .i64 h, .int .i64 p, .int .i64 q] 47) = w2 := ⟨_, rfl⟩
  have hz2 : w2.heap.size = w.heap.size + 1 + 1 := by rw [← hw2]; simp [hz1]
  have Hz2 := Lib.hid hz2
  clear hz2
  rw [hw2, hz1] at b0 b1 b2 b3
  rw [hw2] at hb2
  have kk := keep_of_below hb2
  have c0 := kk _ _ a0
  have c1 := kk _ _ a1
  have c2 := kk _ _ a2
  have c3 := kk _ _ a3
  have hb : Below w.heap.size w w2 := hb1.trans (hb2.mono hb1.size)
  have e1 : (h == k) = false := by simpa using hk
  have hal : ([g, t, p, q].all fun x => inR x 0 99) = true := by simp [inR]; omega
  have w3 : IntKind.i64.wrap (g + q) = g + q := IntWalk.i64_in _ (by omega)
  have w4 : IntKind.i64.wrap (t + p) = t + p := IntWalk.i64_in _ (by omega)
  have hcm := fun (x y : Int) W => compare_c x y W
  have hbd1 := cmpI_bd (g + q) (t + p)
  have hbd2 := cmpI_bd q t
  have hRe : R = if or2 (cmpI (g + q) (t + p)) (cmpI q t) = 1 then h else if or2 (cmpI (g + q) (t + p)) (cmpI q t) = -1 then k else -1 := by rw [← hR, awayF]
  have hcx := fun W => hcm (g + q) (t + p) W
  have hcy := fun W => hcm q t W
  obtain ⟨X, hX⟩ : ∃ X, cmpI (g + q) (t + p) = X := ⟨_, rfl⟩
  obtain ⟨Y, hY⟩ : ∃ Y, cmpI q t = Y := ⟨_, rfl⟩
  rw [hX, hY] at hRe
  simp only [hX] at hcx
  simp only [hY] at hcy
  obtain ⟨O, hO⟩ : ∃ O, or2 X Y = O := ⟨_, rfl⟩
  rw [hO] at hRe
  have Hw1 := Lib.hid hw1
  have Hw2 := Lib.hid hw2
  have Hz1 := Lib.hid hz1
  have Hb := Lib.hid hb
  have Hal := Lib.hid hal
  have HX := Lib.hid hX
  have HY := Lib.hid hY
  have HO := Lib.hid hO
  have Hcx := Lib.hid hcx
  have Hcy := Lib.hid hcy
  have HRe := Lib.hid hRe
  clear hb hal hX hY hO hcx hcy hRe
  clear hcm hw1 hw2 a0 a1 a2 a3 hb1 hb2 kk hR hz1 hbd1 hbd2
  go_enter Try.func38, Try.ntmps38
  go_wp2_with fail
  rw [Hw1.out, Hw2.out, ← Hz2.out]
  refine (gives_v (allWithin_c _ 4 [g, t, p, q] 0 99 _ (ints_of4 w2 g t p q) (by simp)) (congrArg Value.bool Hal.out)).mono ?_
  rintro e w5 ⟨rfl, hb5⟩
  have hb2' : Below w2.heap.size w2 w5 := ((Below.refl _ _).alloc (Nat.le_refl _) _).trans (hb5.mono (by simp))
  have Hb5 := Lib.hid hb2'
  clear hb5 hb2'
  have kk5 := keep_of_below Hb5.out
  have n0 : ∀ y : Past w5, y.now.cell? ⟨w.heap.size, 0, none⟩ = some (.int .i64 h) := Past.cell (kk5 _ _ c0)
  have n1 : ∀ y : Past w5, y.now.cell? ⟨w.heap.size, 1, none⟩ = some (.int .i64 k) := Past.cell (kk5 _ _ c1)
  have n2 : ∀ y : Past w5, y.now.cell? ⟨w.heap.size, 2, none⟩ = some (.int .i64 g) := Past.cell (kk5 _ _ c2)
  have n3 : ∀ y : Past w5, y.now.cell? ⟨w.heap.size, 3, none⟩ = some (.int .i64 t) := Past.cell (kk5 _ _ c3)
  have m2 : ∀ y : Past w5, y.now.cell? ⟨w.heap.size + 1, 2, none⟩ = some (.int .i64 p) := Past.cell (kk5 _ _ b2)
  have m3 : ∀ y : Past w5, y.now.cell? ⟨w.heap.size + 1, 3, none⟩ = some (.int .i64 q) := Past.cell (kk5 _ _ b3)
  have d0 := kk5 _ _ c0
  have d1 := kk5 _ _ c1
  have Hb6 := Lib.hid (Hb.out.trans (Hb5.out.mono Hb.out.size))
  clear c0 c1 c2 c3 b0 b1 b2 b3 kk5 Hb5
  go_wp2
  refine wp_region_past_tail 16 (by kernel_rfl) (by kernel_rfl) ?_
  simp only [List.take_succ_cons, List.take_zero, List.drop_succ_cons, List.drop_zero]
  repeat (go_big_quiet_step ((go_at_call 76; first | with_reducible exact past_quiet (Hcx.out _) | with_reducible exact past_quiet (Hcy.out _))))
  refine wpQuiet_nil ?_
  intro wx hwx
  obtain ⟨⟨wy, hbx⟩, hw⟩ := hwx
  change wx = wy at hw
  subst hw
  have x0 := keep_of_below hbx _ _ d0
  have x1 := keep_of_below hbx _ _ d1
  have Hb7 := Lib.hid (Hb6.out.trans (hbx.mono Hb6.out.size))
  clear hbx n0 n1 n2 n3 m2 m3 d0 d1 Hb6
  go_wp2_with fail
  have hor := calls_v (cmpOr2_c (some ⟨wx.heap.size, 0, none⟩) 2 X Y _ (ints_of2 wx X Y)) (congrArg (Value.int .i64) HO.out)
  refine hor.mono ?_
  rintro e w8 ⟨rfl, hq8⟩
  have hb8 : Below wx.heap.size wx w8 := ((Below.refl _ _).alloc (Nat.le_refl _) _).trans (hq8.below _)
  have y0 := keep_of_below hb8 _ _ x0
  have y1 := keep_of_below hb8 _ _ x1
  have Hb8 := Lib.hid (Hb7.out.trans (hb8.mono Hb7.out.size))
  clear hq8 hb8 hor x0 x1 Hb7
  by_cases o1 : O = 1
  · have hRh : h = R := by rw [HRe.out, if_pos o1]
    have e2 : (O == 1) = true := by simp [o1]
    have HRh := Lib.hid hRh
    have O1 := Lib.hid o1
    clear hRh o1
    go_wp2
    go_ret
    exact ⟨ret_int HRh.out, Hb8.out⟩
  · have e2 : (O == 1) = false := by simpa using o1
    by_cases o2 : O = -1
    · have hRk : k = R := by rw [HRe.out, if_neg o1, if_pos o2]
      have e3 : (O == -1) = true := by simp [o2]
      have HRk := Lib.hid hRk
      have O1 := Lib.hid o1
      have O2 := Lib.hid o2
      clear hRk o1 o2
      go_wp2
      go_ret
      exact ⟨ret_int HRk.out, Hb8.out⟩
    · have e3 : (O == -1) = false := by simpa using o2
      have hRn : -1 = R := by rw [HRe.out, if_neg o1, if_neg o2]
      have HRn := Lib.hid hRn
      have O1 := Lib.hid o1
      have O2 := Lib.hid o2
      clear hRn o1 o2
      go_wp2
      go_ret
      exact ⟨ret_int HRn.out, Hb8.out⟩
end Go.Proofs.Ytehlijpjcjegcaa
