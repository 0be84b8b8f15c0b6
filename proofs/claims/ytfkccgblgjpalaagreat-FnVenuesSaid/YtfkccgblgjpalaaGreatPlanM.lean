
/- Contracts: a drawn plan (reference's l16Draw, MakePlan). -/
import Derived.Test.YtfkccgblgjpalaaGreatPlanD
namespace Go.Proofs.YtfkccgblgjpalaaGreat
set_option linter.unusedSimpArgs false
set_option linter.unusedVariables false
open Go.RowKit

theorem swp_mem' {α : Type} {l : List α} {r s : Nat} (hr : r < l.length) (hs : s < l.length) {x : α} (h : x ∈ swp l r s) : x ∈ l := by
  obtain ⟨i, hi⟩ := List.getElem?_of_mem h
  rw [swp_at hr hs] at hi
  exact List.mem_of_getElem? hi
theorem planOk_swp' {n : Int} {plan : List (List Int)} {r s : Nat} (h : planOk n plan = true) (hr : r < plan.length) (hs : s < plan.length) : planOk n (swp plan r s) = true := by
  simp only [planOk, Bool.and_eq_true, decide_eq_true_eq, List.all_eq_true] at h ⊢
  obtain ⟨⟨h1, h2⟩, h3⟩ := h
  exact ⟨⟨h1, by rw [swp_length]; exact h2⟩, fun x hx => h3 x (swp_mem' hr hs hx)⟩
theorem swapOf_eq' {n : Int} {plan : List (List Int)} {r s : Nat} (h : planOk n plan = true) (hr : r < plan.length) (hs : s < plan.length) : swapOf n plan (r : Int) (s : Int) = swp plan r s := by
  rw [swapOf, if_pos]
  · rfl
  · simp only [swapOk, h, inR, Bool.true_and, Bool.and_eq_true, decide_eq_true_eq]
    omega

theorem size_of {x : Int} (h : x ∈ [2, 4, 6, 8]) : ∃ n : Nat, x = (n : Int) ∧ Size n := by
  simp only [List.mem_cons, List.not_mem_nil, or_false] at h
  rcases h with rfl | rfl | rfl | rfl
  · exact ⟨2, rfl, .inl rfl⟩
  · exact ⟨4, rfl, .inr (.inl rfl)⟩
  · exact ⟨6, rfl, .inr (.inr (.inl rfl))⟩
  · exact ⟨8, rfl, .inr (.inr (.inr rfl))⟩
theorem size_clubs {n : Nat} (h : Size n) : isClubsB (n : Int) = true := by rcases h with rfl | rfl | rfl | rfl <;> decide
theorem ints_new4 (w : World) (x y z t : Int) (T : TypeId) : Ints (w.alloc (.cells #[.int .i64 x, .int .i64 y, .int .i64 z, .int .i64 t] T)) (some ⟨w.heap.size, 0, none⟩) [x, y, z, t] := fun k u hu => by
  refine ⟨_, rfl, ?_⟩
  rw [addr_zero_add, cell_of_row _ _ k _ T (0, 0) (heap_alloc_new w _)]
  rcases k with _ | _ | _ | _ | k
  · simp at hu; subst hu; rfl
  · simp at hu; subst hu; rfl
  · simp at hu; subst hu; rfl
  · simp at hu; subst hu; rfl
  · simp at hu
theorem ends_own {n : Nat} {w0 W : World} {lo : Nat} {B : Option Addr} {d : Nat} {plan : List (List Int)} (hn : Size n) (hp : planOk n plan = true) (hl : plan.length ≤ 14) (ho : Own2 3 36 lo W.heap.size W B d plan) (hb : Below w0.heap.size w0 W) :
    APlan w0 (.returned (.tuple #[.int .i64 (n : Int), .slice B plan.length d])) W := ⟨n, B, d, plan, rfl, hn, hp, hl, ho.rows, hb⟩
theorem ends_take {n : Nat} {w0 W : World} {k : Nat} {ad : Addr} {d : Nat} {plan : List (List Int)} (hn : Size n) (hp : planOk n plan = true) (hl : plan.length ≤ 14) (hk : k ≤ plan.length) (hr : Rows W (some ad) plan) (hb : Below w0.heap.size w0 W) :
    APlan w0 (.returned (.tuple #[.int .i64 (n : Int), .slice (some ad) k d])) W := ⟨n, some ad, d, plan.take k, by rw [List.length_take, Nat.min_eq_left hk], hn, planOk_take hp k, by rw [List.length_take]; omega, rows_take hr k, hb⟩

set_option maxRecDepth 100000 in
set_option maxHeartbeats 4000000 in
theorem l16Draw_c (g : Nat) (A : Option Addr) (m c : Nat) (w0 w : World) (hc : Cur w g A m c) (hb : Byt w0 A m) (hA : ∀ a, A = some a → 0 < m → a.block < g) (hm : m ≤ 1048576) (hg : w0.heap.size ≤ g) (hgz : g < w.heap.size) (hd : Below w0.heap.size w0 w) :
    Calls Tryz.prog 52 #[.pointer (some ⟨g, 0, none⟩)] w (APlan w0) := by
  have hal : Below w.heap.size w (w.alloc (.cells #[.int .i64 2, .int .i64 4, .int .i64 6, .int .i64 8] 3)) := (Below.refl _ _).alloc (Nat.le_refl _) _
  have hdl := hd.trans (hal.mono hd.size)
  have hcl := hc.below (hal.mono hgz)
  have hpk := l01Pick_c g A m c (some ⟨w.heap.size, 0, none⟩) 4 [2, 4, 6, 8] _ (ints_new4 w 2 4 6 8 3) (fun a e => by injection e with e; subst e; show ¬ w.heap.size = g; omega) hcl (hb.keep (keep_of_below hdl)) hA hm (by decide) (by decide)
  have hsz : g < (w.alloc (.cells #[.int .i64 2, .int .i64 4, .int .i64 6, .int .i64 8] 3)).heap.size := Nat.lt_of_lt_of_le hgz hal.size
  have Hpk := Lib.hid hpk
  have Hb := Lib.hid hb
  have HA := Lib.hid hA
  have Hd := Lib.hid hdl
  clear hc hb hA hd hal hdl hcl hpk
  go_enter Tryz.func52, Tryz.ntmps52
  go_wp2_with fail
  refine (Hpk.out).mono ?_
  rintro e v0 ⟨x, rfl, hx, hcX, hoX⟩
  obtain ⟨n, rfl, hsn⟩ := size_of hx
  have hn2 : 2 ≤ n := by rcases hsn with rfl | rfl | rfl | rfl <;> decide
  have hn8 : n ≤ 8 := by rcases hsn with rfl | rfl | rfl | rfl <;> decide
  have hcl := size_clubs hsn
  have hci := circle_ok hsn
  have hce : circleOf (n : Int) = circle n := by rw [circleOf, if_pos hcl]; rfl
  have hdX := only_new hoX Hd.out hg
  clear hgz
  have hgz : g < v0.heap.size := Nat.lt_of_lt_of_le hsz hoX.size
  clear Hd Hpk hx
  have Hd := Lib.hid hdX
  have Hc := Lib.hid hcX
  clear hdX hcX hoX hsz
  have hcp := sCirclePlan_c (n : Int) v0
  rw [hce, hcl] at hcp
  generalize circle n = plan at hcp hci
  have Hcp := Lib.hid hcp
  have Hci := Lib.hid hci
  have Hsn := Lib.hid hsn
  clear hcp hci hsn
  clear hce hcl
  go_wp2_with fail
  refine (Hcp.out).mono ?_
  rintro e w1 ⟨B, d, rfl, ho, hb1⟩
  have hdX := Hd.out.trans (hb1.mono Hd.out.size)
  have hcX := Hc.out.below (hb1.mono hgz)
  have hoy := ho.wide (lo' := g + 1) hgz (Nat.le_refl _)
  have hzX : g < w1.heap.size := Nat.lt_of_lt_of_le hgz hb1.size
  clear Hd Hc hgz Hcp
  have hgz := hzX
  have Hd := Lib.hid hdX
  have Hc := Lib.hid hcX
  have Ho := Lib.hid hoy
  clear hdX hcX hoy hzX ho hb1
  have hby := l01Below_c g A m c 4 w1 Hc.out (Hb.out.keep (keep_of_below Hd.out)) HA.out hm (by omega) (by omega)
  have Hby := Lib.hid hby
  clear hby
  go_wp2_with fail
  refine Hby.out.mono ?_
  rintro e v1 ⟨i0, rfl, i00, i01, hcX, hoX⟩
  have hdX := only_new hoX Hd.out hg
  have hzX : g < v1.heap.size := Nat.lt_of_lt_of_le hgz hoX.size
  clear Hby Hc Hd hgz
  have hgz := hzX
  have Hc := Lib.hid hcX
  have Hd := Lib.hid hdX
  have hoy := ((Ho.out.only hoX (Nat.le_refl _) (.inr (Nat.le_refl _))).wide (Nat.le_refl _) hoX.size)
  clear Ho
  have Ho := Lib.hid hoy
  clear hoy
  clear hcX hdX hoX hzX
  obtain ⟨i0, rfl⟩ := Int.eq_ofNat_of_zero_le i00
  go_wp2
  rw [Hci.out.2]
  go_loopw [7, 5] (fun i p wr => ∃ (j : Nat) (B : Option Addr) (d : Nat) (plan : List (List Int)), j ≤ 3 ∧ i = .int .i64 j ∧ p = .slice B (n - 1) d ∧ planOk n plan = true ∧ plan.length = n - 1 ∧ Own2 3 36 (g + 1) wr.heap.size wr B d plan ∧ Cur wr g A m c ∧ Below w0.heap.size w0 wr ∧ g < wr.heap.size) (fun i _ _ => (intOf i).toNat)
  case atStart => exact ⟨i0, B, d, plan, by omega, rfl, rfl, Hci.out.1, Hci.out.2, Ho.out, Hc.out, Hd.out, hgz⟩
  case round =>
    clear Ho Hc Hd hgz Hci i00 i01
    obtain ⟨j, B, d, plan, hj, rfl, rfl, hok, hlen, ho, hc, hd, hgz⟩ := hrel
    have Hok := Lib.hid hok
    have Hlen := Lib.hid hlen
    have Ho := Lib.hid ho
    have Hc := Lib.hid hc
    have Hd := Lib.hid hd
    clear hok hlen ho hc hd
    have w1' : IntKind.i64.wrap ((n : Int) - 1) = (n : Int) - 1 := IntWalk.i64_in _ (by omega)
    by_cases hj0 : 0 < j
    · have hji : (0 : Int) < (j : Int) := by omega
      have hby := l01Below_c g A m c ((n : Int) - 1) wr Hc.out (Hb.out.keep (keep_of_below Hd.out)) HA.out hm (by omega) (by omega)
      have Hby := Lib.hid hby
      clear hby
      go_wp2_with fail
      refine Hby.out.mono ?_
      rintro e v2 ⟨r, rfl, r0, r1, hcX, hoX⟩
      have hdX := only_new hoX Hd.out hg
      have hzX : g < v2.heap.size := Nat.lt_of_lt_of_le hgz hoX.size
      clear Hby Hc Hd hgz
      have hgz := hzX
      have Hc := Lib.hid hcX
      have Hd := Lib.hid hdX
      have hoy := ((Ho.out.only hoX (Nat.le_refl _) (.inr (Nat.le_refl _))).wide (Nat.le_refl _) hoX.size)
      clear Ho
      have Ho := Lib.hid hoy
      clear hoy
      clear hcX hdX hoX hzX
      have hby := l01Below_c g A m c ((n : Int) - 1) v2 Hc.out (Hb.out.keep (keep_of_below Hd.out)) HA.out hm (by omega) (by omega)
      have Hby := Lib.hid hby
      clear hby
      go_wp2_with fail
      refine Hby.out.mono ?_
      rintro e v3 ⟨q, rfl, q0, q1, hcX, hoX⟩
      have hdX := only_new hoX Hd.out hg
      have hzX : g < v3.heap.size := Nat.lt_of_lt_of_le hgz hoX.size
      clear Hby Hc Hd hgz
      have hgz := hzX
      have Hc := Lib.hid hcX
      have Hd := Lib.hid hdX
      have hoy := ((Ho.out.only hoX (Nat.le_refl _) (.inr (Nat.le_refl _))).wide (Nat.le_refl _) hoX.size)
      clear Ho
      have Ho := Lib.hid hoy
      clear hoy
      clear hcX hdX hoX hzX
      obtain ⟨r, rfl⟩ := Int.eq_ofNat_of_zero_le r0
      obtain ⟨q, rfl⟩ := Int.eq_ofNat_of_zero_le q0
      have hsw := sSwapRounds_c (n : Int) B d plan (r : Int) (q : Int) v3 Ho.out.rows (by have := Hlen.out; omega)
      rw [swapOf_eq' Hok.out (by have := Hlen.out; omega) (by have := Hlen.out; omega), Hlen.out] at hsw
      have hok2 := planOk_swp' (r := r) (s := q) Hok.out (by have := Hlen.out; omega) (by have := Hlen.out; omega)
      have hlen2 : (swp plan r q).length = n - 1 := by rw [swp_length]; exact Hlen.out
      generalize swp plan r q = plan2 at hsw hok2 hlen2
      have Hsw := Lib.hid hsw
      have Hok2 := Lib.hid hok2
      have Hlen2 := Lib.hid hlen2
      clear hsw hok2 hlen2
      go_wp2_with fail
      refine Hsw.out.mono ?_
      rintro e w4 ⟨B2, d2, rfl, ho2, hb2⟩
      rw [Hlen2.out]
      have hdX := Hd.out.trans (hb2.mono Hd.out.size)
      have hcX := Hc.out.below (hb2.mono hgz)
      have hoX := ho2.wide (lo' := g + 1) hgz (Nat.le_refl _)
      have hzX : g < w4.heap.size := Nat.lt_of_lt_of_le hgz hb2.size
      have HdX := Lib.hid hdX
      have HcX := Lib.hid hcX
      have HoX := Lib.hid hoX
      clear hdX hcX hoX
      clear ho2 hb2
      go_wp2
      go_roundw
      case rel => exact ⟨j - 1, B2, d2, plan2, by omega, by go_num, rfl, Hok2.out, Hlen2.out, HoX.out, HcX.out, HdX.out, hzX⟩
      case measure => simp [intOf]; omega
    · obtain rfl : j = 0 := by omega
      have hby := l01Once_c g A m c 4 wr Hc.out (Hb.out.keep (keep_of_below Hd.out)) HA.out hm (by omega) (by omega)
      have Hby := Lib.hid hby
      clear hby
      go_wp2_with fail
      refine Hby.out.mono ?_
      rintro e v4 ⟨b, rfl, hcX, hoX⟩
      have hdX := only_new hoX Hd.out hg
      have hzX : g < v4.heap.size := Nat.lt_of_lt_of_le hgz hoX.size
      clear Hby Hc Hd hgz
      have hgz := hzX
      have Hc := Lib.hid hcX
      have Hd := Lib.hid hdX
      have hoy := ((Ho.out.only hoX (Nat.le_refl _) (.inr (Nat.le_refl _))).wide (Nat.le_refl _) hoX.size)
      clear Ho
      have Ho := Lib.hid hoy
      clear hoy
      clear hcX hdX hoX hzX
      cases b
      · obtain ⟨L, hL⟩ : ∃ L, n - 1 = L := ⟨_, rfl⟩
        rw [hL]
        have hlenL := Hlen.out
        rw [hL] at hlenL
        have hL14 : L ≤ 14 := by omega
        have hL2 : 1 ≤ L := by omega
        clear Hlen hL
        have Hlen := Lib.hid hlenL
        clear hlenL
        have hby := l01Once_c g A m c 6 v4 Hc.out (Hb.out.keep (keep_of_below Hd.out)) HA.out hm (by omega) (by omega)
        have Hby := Lib.hid hby
        clear hby
        go_wp2_with fail
        refine Hby.out.mono ?_
        rintro e v5 ⟨b2, rfl, hcX, hoX⟩
        have hdX := only_new hoX Hd.out hg
        have hzX : g < v5.heap.size := Nat.lt_of_lt_of_le hgz hoX.size
        clear Hby Hc Hd hgz
        have hgz := hzX
        have Hc := Lib.hid hcX
        have Hd := Lib.hid hdX
        have hoy := ((Ho.out.only hoX (Nat.le_refl _) (.inr (Nat.le_refl _))).wide (Nat.le_refl _) hoX.size)
        clear Ho
        have Ho := Lib.hid hoy
        clear hoy
        clear hcX hdX hoX hzX
        cases b2
        · go_wp2
          go_ret2
          have h := ends_own Hsn.out Hok.out (by have := Hlen.out; omega) Ho.out Hd.out
          rw [Hlen.out] at h
          exact h
        · obtain ⟨xs, hx⟩ := some_of (l := plan) (k := 0) (by have := Hlen.out; omega)
          obtain ⟨ad, _, _, rfl, _⟩ := Ho.out.rows 0 xs hx
          have hcap := Ho.out.le
          rw [Hlen.out] at hcap
          have hcap1 := hcap.1
          have hcap2 := hcap.2
          unfold maxLen at hcap2
          clear hcap hx
          have w2' : IntKind.i64.wrap (((L : Nat) : Int) + 1) = ((L : Nat) : Int) + 1 := IntWalk.i64_in _ (by omega)
          have hby := l01Below_c g A m c (((L : Nat) : Int) + 1) v5 Hc.out (Hb.out.keep (keep_of_below Hd.out)) HA.out hm (by omega) (by omega)
          have Hby := Lib.hid hby
          clear hby
          go_wp2_with fail
          refine Hby.out.mono ?_
          rintro e v6 ⟨k, rfl, k0, k1, hcX, hoX⟩
          have hdX := only_new hoX Hd.out hg
          have hzX : g < v6.heap.size := Nat.lt_of_lt_of_le hgz hoX.size
          clear Hby Hc Hd hgz
          have hgz := hzX
          have Hc := Lib.hid hcX
          have Hd := Lib.hid hdX
          have hoy := ((Ho.out.only hoX (Nat.le_refl _) (.inr (Nat.le_refl _))).wide (Nat.le_refl _) hoX.size)
          clear Ho
          have Ho := Lib.hid hoy
          clear hoy
          clear hcX hdX hoX hzX
          obtain ⟨k, rfl⟩ := Int.eq_ofNat_of_zero_le k0
          have hkl : k ≤ L := by omega
          have hkd : k ≤ d := by omega
          go_wp2
          go_ret2
          exact ends_take Hsn.out Hok.out (by have := Hlen.out; omega) (by have := Hlen.out; omega) Ho.out.rows Hd.out
      · have hdp := sDoublePlan_c (n : Int) B d plan v4 Ho.out.rows (by have := Hlen.out; omega)
        have hde : doubleOf (n : Int) plan = plan ++ turn plan := by rw [doubleOf, if_pos]; rw [Hok.out, Bool.true_and, decide_eq_true_eq]; have := Hlen.out; omega
        rw [hde, Hlen.out] at hdp
        obtain ⟨L, hL⟩ : ∃ L, (plan ++ turn plan).length = L := ⟨_, rfl⟩
        have hL1 : L = 2 * (n - 1) := by rw [← hL, List.length_append, turn_length, Hlen.out]; omega
        have hL14 : L ≤ 14 := by omega
        have hL2 : 1 ≤ L := by omega
        clear hL1
        have hok2 := planOk_double Hok.out (by have := Hlen.out; omega)
        generalize plan ++ turn plan = plan at hdp hok2 hL
        clear Hok Hlen
        have Hok := Lib.hid hok2
        have Hlen := Lib.hid hL
        have Hdp := Lib.hid hdp
        clear hdp
        clear hde hL hok2
        go_wp2_with fail
        refine Hdp.out.mono ?_
        rintro e w5 ⟨B, d, rfl, ho2, hb2⟩
        rw [Hlen.out]
        have hdX := Hd.out.trans (hb2.mono Hd.out.size)
        have hcX := Hc.out.below (hb2.mono hgz)
        have hoX := ho2.wide (lo' := g + 1) hgz (Nat.le_refl _)
        have hzX : g < w5.heap.size := Nat.lt_of_lt_of_le hgz hb2.size
        clear Hd Hc Ho hgz ho2 hb2 Hdp
        have hgz := hzX
        have Hd := Lib.hid hdX
        have Hc := Lib.hid hcX
        have Ho := Lib.hid hoX
        clear hzX hdX hcX hoX
        have hby := l01Once_c g A m c 6 w5 Hc.out (Hb.out.keep (keep_of_below Hd.out)) HA.out hm (by omega) (by omega)
        have Hby := Lib.hid hby
        clear hby
        go_wp2_with fail
        refine Hby.out.mono ?_
        rintro e v7 ⟨b2, rfl, hcX, hoX⟩
        have hdX := only_new hoX Hd.out hg
        have hzX : g < v7.heap.size := Nat.lt_of_lt_of_le hgz hoX.size
        clear Hby Hc Hd hgz
        have hgz := hzX
        have Hc := Lib.hid hcX
        have Hd := Lib.hid hdX
        have hoy := ((Ho.out.only hoX (Nat.le_refl _) (.inr (Nat.le_refl _))).wide (Nat.le_refl _) hoX.size)
        clear Ho
        have Ho := Lib.hid hoy
        clear hoy
        clear hcX hdX hoX hzX
        cases b2
        · go_wp2
          go_ret2
          have h := ends_own Hsn.out Hok.out (by have := Hlen.out; omega) Ho.out Hd.out
          rw [Hlen.out] at h
          exact h
        · obtain ⟨xs, hx⟩ := some_of (l := plan) (k := 0) (by have := Hlen.out; omega)
          obtain ⟨ad, _, _, rfl, _⟩ := Ho.out.rows 0 xs hx
          have hcap := Ho.out.le
          rw [Hlen.out] at hcap
          have hcap1 := hcap.1
          have hcap2 := hcap.2
          unfold maxLen at hcap2
          clear hcap hx
          have w2' : IntKind.i64.wrap (((L : Nat) : Int) + 1) = ((L : Nat) : Int) + 1 := IntWalk.i64_in _ (by omega)
          have hby := l01Below_c g A m c (((L : Nat) : Int) + 1) v7 Hc.out (Hb.out.keep (keep_of_below Hd.out)) HA.out hm (by omega) (by omega)
          have Hby := Lib.hid hby
          clear hby
          go_wp2_with fail
          refine Hby.out.mono ?_
          rintro e v8 ⟨k, rfl, k0, k1, hcX, hoX⟩
          have hdX := only_new hoX Hd.out hg
          have hzX : g < v8.heap.size := Nat.lt_of_lt_of_le hgz hoX.size
          clear Hby Hc Hd hgz
          have hgz := hzX
          have Hc := Lib.hid hcX
          have Hd := Lib.hid hdX
          have hoy := ((Ho.out.only hoX (Nat.le_refl _) (.inr (Nat.le_refl _))).wide (Nat.le_refl _) hoX.size)
          clear Ho
          have Ho := Lib.hid hoy
          clear hoy
          clear hcX hdX hoX hzX
          obtain ⟨k, rfl⟩ := Int.eq_ofNat_of_zero_le k0
          have hkl : k ≤ L := by omega
          have hkd : k ≤ d := by omega
          go_wp2
          go_ret2
          exact ends_take Hsn.out Hok.out (by have := Hlen.out; omega) (by have := Hlen.out; omega) Ho.out.rows Hd.out

set_option maxHeartbeats 1000000 in
theorem makePlan_c (A : Option Addr) (m c n : Nat) (w : World) (hb : Byt w A m) (hA : ∀ a, A = some a → 0 < m → a.block < w.heap.size) (hm : m ≤ 1048576) (hn : n ≤ 1000) :
    Calls Tryz.prog 24 #[.slice A m c, .int .i64 (n : Int)] w (APlan w) := by
  have hnc := l32New_c A m c n w hb hA hm hn
  have Hb := Lib.hid hb
  have HA := Lib.hid hA
  have Hnc := Lib.hid hnc
  clear hb hA hnc
  go_enter Tryz.func24, Tryz.ntmps24
  go_wp2_with fail
  refine (Hnc.out).mono ?_
  rintro e w1 ⟨g, rfl, hg1, hg2, hc, hb1⟩
  have hdr := l16Draw_c g A m c w w1 hc Hb.out (fun a e h0 => Nat.lt_of_lt_of_le (HA.out a e h0) hg1) hm hg1 hg2 hb1
  have Hdr := Lib.hid hdr
  clear hdr
  go_wp2_with fail
  refine (Hdr.out).mono ?_
  rintro e w2 ⟨k, B, d, plan, rfl, hs, hp, hl, hr, hb2⟩
  have Hs := Lib.hid hs
  have Hp := Lib.hid hp
  have Hl := Lib.hid hl
  have Hr := Lib.hid hr
  have Hb2 := Lib.hid hb2
  clear hs hp hl hr hb2
  go_wp2
  go_ret2
  exact ⟨k, B, d, plan, rfl, Hs.out, Hp.out, Hl.out, Hr.out, Hb2.out⟩
end Go.Proofs.YtfkccgblgjpalaaGreat
