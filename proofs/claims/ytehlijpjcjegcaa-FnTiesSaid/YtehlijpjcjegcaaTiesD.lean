/- Contract for the law on ties: a club's record (RecordOf, program). -/
import Derived.Test.YtehlijpjcjegcaaTiesC
import Derived.OwnWalk
namespace Go.Proofs.Ytehlijpjcjegcaa
set_option linter.unusedVariables false
set_option linter.unusedSimpArgs false
open Go.RowKit

theorem gam_step (k : Nat) {rs : List Res} {j : Nat} {r : Res} (h : rs[j]? = some r) : gam k (rs.take (j + 1)) = gam k (rs.take j) + at2 r k 1 1 := by
  have : ∀ (l : List Res) (x : Res), gam k (l ++ [x]) = gam k l + at2 x k 1 1 := by
    intro l x
    induction l with
    | nil => simp [gam, sumAt]
    | cons y t ih =>
      rw [gam] at ih ⊢
      rw [gam] at ih
      rw [List.cons_append, gam, sumAt, sumAt, ih]; omega
  rw [take_of h, this]
theorem gam_nonneg (k : Nat) : ∀ rs : List Res, 0 ≤ gam k rs
  | [] => Int.le_refl _
  | r :: t => by
    have h1 : gam k (r :: t) = at2 r k 1 1 + gam k t := rfl
    have := gam_nonneg k t
    rcases at2_one r k with h | h <;> rw [h1, h] <;> omega
def GivesRec (w : World) (g : Int) (e : Ending) (w' : World) : Prop := ∃ x y z : Int, e = .returned (.tuple #[.int .i64 x, .int .i64 y, .int .i64 z]) ∧ 0 ≤ x ∧ 0 ≤ y ∧ 0 ≤ z ∧ x + y + z = g ∧ Below w.heap.size w w'

set_option maxRecDepth 100000 in
set_option maxHeartbeats 4000000 in
theorem record_c (n : Nat) (A : Option Addr) (c : Nat) (rs : List Res) (k : Nat) (w : World) (ha : Games w A rs) (hok : leagueOk n rs = true) (hk : k < n) :
    Calls Try.prog 34 #[lgv n A rs.length c, .int .i64 (k : Int)] w (GivesRec w (gam k rs)) := by
  have hL := league_of hok
  have hm60 := hL.few
  have hn8 : n ≤ 8 := by have := hL.eight; omega
  have hlc := fun W (h : Games W A rs) => iLeagueOk_c n A c rs W h (by omega)
  rw [hok] at hlc
  have hhc := fun m W => gives_v (has_c (n : Int) A m c (k : Int) W (by omega) (by omega)) (congrArg Value.bool (show inR (k : Int) 0 ((n : Int) - 1) = true by simp [inR]; omega))
  obtain ⟨b0, b1⟩ := box2 w (.int .i64 (n : Int)) (.slice A rs.length c) 29
  have hbw : Below w.heap.size w (w.alloc (.cells #[.int .i64 (n : Int), .slice A rs.length c] 29)) := (Below.refl _ _).alloc (Nat.le_refl _) _
  have hg0 := ha.keep (keep_of_below hbw)
  unfold lgv at hlc hhc ⊢
  obtain ⟨m, hmm⟩ : ∃ m, rs.length = m := ⟨_, rfl⟩
  rw [hmm] at hlc hbw hg0 b0 b1 hm60 ⊢
  have hhc := hhc m
  have Ha := Lib.hid ha
  have Hlc := Lib.hid hlc
  have Hbw := Lib.hid hbw
  have Hg0 := Lib.hid hg0
  have Hmm := Lib.hid hmm
  have Hhc := Lib.hid hhc
  clear ha hlc hbw hg0 hmm hhc
  clear hL hok
  go_enter Try.func34, Try.ntmps34
  go_wp2_with fail
  refine (Hlc.out _ Hg0.out).mono ?_
  rintro e w1 ⟨rfl, hb⟩
  have c0 := keep_of_below hb _ _ b0
  have c1 := keep_of_below hb _ _ b1
  have Hb := Lib.hid (Hbw.out.trans (hb.mono Hbw.out.size))
  have hbx : w.heap.size < w1.heap.size := by have := hb.size; simp at this; omega
  clear hb b0 b1
  go_wp2_with fail
  refine (Hhc.out _).mono ?_
  rintro e w2 ⟨rfl, hb2⟩
  have d0 := keep_of_below hb2 _ _ c0
  have d1 := keep_of_below hb2 _ _ c1
  have Hb2 := Lib.hid (Hb.out.trans (hb2.mono Hb.out.size))
  have hbx2 : w.heap.size < w2.heap.size := Nat.lt_of_lt_of_le hbx hb2.size
  clear hb2 c0 c1 Hb
  go_wp2
  have hown := own_new3 70 w2 (.int .i64 0) (.int .i64 0) (.int .i64 0)
  have hba : Below w2.heap.size w2 (w2.alloc (.cells #[.int .i64 0, .int .i64 0, .int .i64 0] 70)) := (Below.refl _ _).alloc (Nat.le_refl _) _
  obtain ⟨w3, hw3⟩ : ∃ w3, w2.alloc (.cells #[.int .i64 0, .int .i64 0, .int .i64 0] 70) = w3 := ⟨_, rfl⟩
  have hz3 : w3.heap.size = w2.heap.size + 1 := by rw [← hw3]; simp
  rw [hw3] at hown hba ⊢
  obtain ⟨C, hC⟩ : ∃ C, w2.heap.size = C := ⟨_, rfl⟩
  rw [hC] at hown hz3 hbx2 ⊢
  have hwC : w.heap.size ≤ C := by rw [← hC]; exact Hb2.out.size
  have Hb3 := Lib.hid (Hb2.out.trans (hba.mono Hb2.out.size))
  have Hown := Lib.hid hown
  have Hz3 := Lib.hid hz3
  have HC := Lib.hid hC
  clear hba hown hw3 hz3 hC d0 d1 Hb2
  go_loopw [22] (fun i wr => ∃ (j : Nat) (L : List Int), j ≤ m ∧ i = .int .i64 j ∧ L.length = 3 ∧ (∀ x ∈ L, 0 ≤ x ∧ x ≤ j) ∧ L.sum = gam k (rs.take j) ∧ Own 70 C (C + 1) wr (some ⟨C, 0, none⟩) 3 (L.map (.int .i64)) ∧ Only C (C + 1) w3 wr) (fun i _ => m - (intOf i).toNat)
  case atStart => exact ⟨0, [0, 0, 0], Nat.zero_le _, rfl, rfl, by simp, by rfl, Hown.out, Only.refl _ _ _⟩
  case round =>
    obtain ⟨j, L, hj, rfl, hL3, hLx, hLs, hO, hon⟩ := hrel
    have hbr : Below w.heap.size w wr := Hb3.out.trans (below_of_only hon hwC Hb3.out.size)
    have hzr : C + 1 ≤ wr.heap.size := by have := hon.size; have := Hz3.out; omega
    by_cases hlt : j < m
    · have hji : (j : Int) < (m : Int) := by omega
      obtain ⟨r, hr⟩ := some_of (l := rs) (k := j) (by rw [Hmm.out]; exact hlt)
      obtain ⟨ad, rfl, f0, f1, f2, f3⟩ := (Ha.out.keep (keep_of_below hbr)) j r hr
      have hgs := gam_step k hr
      obtain ⟨h, a, g, t⟩ := r
      obtain ⟨u0, u1, u2, u3⟩ := box4 wr (.int .i64 h) (.int .i64 a) (.int .i64 g) (.int .i64 t) 47
      have hbu : Below wr.heap.size wr (wr.alloc (.cells #[.int .i64 h, .int .i64 a, .int .i64 g, .int .i64 t] 47)) := (Below.refl _ _).alloc (Nat.le_refl _) _
      have hOu := hO.below (hbu.mono hzr)
      have honu := only_belowZ hon hbu
      have hzu : C + 1 ≤ (wr.alloc (.cells #[.int .i64 h, .int .i64 a, .int .i64 g, .int .i64 t] 47)).heap.size := by simp; omega
      by_cases hin : (k : Int) = h ∨ (k : Int) = a
      · have hat : at2 ⟨h, a, g, t⟩ k 1 1 = 1 := by unfold at2; rcases hin with e | e <;> simp [e]
        obtain ⟨o0, o2⟩ := out_bd ⟨h, a, g, t⟩ (k : Int)
        obtain ⟨o, ho⟩ := Int.eq_ofNat_of_zero_le o0
        have ho3 : o < 3 := by rw [ho] at o2; omega
        have hoi : (o : Int) < 3 := by omega
        obtain ⟨v, hv⟩ := some_of (l := L) (k := o) (by omega)
        obtain ⟨v0, v1⟩ := hLx v (List.mem_of_getElem? hv)
        have wv : IntKind.i64.wrap (v + 1) = v + 1 := IntWalk.i64_in _ (by omega)
        have hoc := fun W => gives_v (outcome_c h a g t (k : Int) W) (congrArg (Value.int .i64) ho)
        have hLs2 : (L.set o (v + 1)).sum = gam k (rs.take (j + 1)) := by
          have e1 : L.getD o 0 = v := by rw [List.getD_eq_getElem?_getD, hv]; rfl
          rw [← e1, set_sum L o 1 (by omega), hLs, hgs, hat]
        have hLx2 : ∀ x ∈ L.set o (v + 1), 0 ≤ x ∧ x ≤ ((j + 1 : Nat) : Int) := fun x hx => by
          rcases List.mem_or_eq_of_mem_set hx with hx | rfl
          · have := hLx x hx; omega
          · omega
        have hOm : (L.map (Value.int .i64)).set o (.int .i64 (v + 1)) = (L.set o (v + 1)).map (.int .i64) := by rw [List.map_set]
        have hL32 : (L.set o (v + 1)).length = 3 := by rw [List.length_set]; exact hL3
        have hvm : (L.map (Value.int .i64))[o]? = some (.int .i64 v) := by rw [List.getElem?_map, hv]; rfl
        have hcs : ((h == (k : Int)) = true) ∨ ((h == (k : Int)) = false ∧ (a == (k : Int)) = true) := by
          by_cases e : h = (k : Int)
          · left; simp [e]
          · right; refine ⟨by simpa using e, ?_⟩
            rcases hin with h1 | h1
            · exact absurd h1.symm e
            · simp [h1]
        rcases hcs with e1 | ⟨e1, e2⟩
        · have Hr := Lib.hid hr
          have Hgs := Lib.hid hgs
          have HLx := Lib.hid hLx
          have HLx2 := Lib.hid hLx2
          have HLs := Lib.hid hLs
          have HLs2 := Lib.hid hLs2
          have HO := Lib.hid hO
          have Hon := Lib.hid hon
          have Hbr := Lib.hid hbr
          have HL3 := Lib.hid hL3
          have Hin := Lib.hid hin
          have Hat := Lib.hid hat
          have HOm := Lib.hid hOm
          have HL32 := Lib.hid hL32
          have Hvm := Lib.hid hvm
          have Hv := Lib.hid hv
          have Hoc := Lib.hid hoc
          have HOu := Lib.hid hOu
          have Honu := Lib.hid honu
          have Ho := Lib.hid ho
          clear hr hgs hLx hLx2 hLs hLs2 hO hon hbr hL3 hin hat hOm hL32 hvm hv hoc hOu honu ho
          clear hbu o0 o2 v0 v1
          go_wp2_with fail
          refine (Hoc.out _).mono ?_
          rintro e w5 ⟨rfl, hb5⟩
          have hO5 := HOu.out.below (hb5.mono hzu)
          obtain ⟨g5, q5, _, _, cv, fv⟩ := hO5.at_ Hvm.out
          obtain rfl : C = g5 := by injection q5 with q; injection q
          have hO6 := hO5.set_ o (.int .i64 (v + 1))
          rw [HOm.out] at hO6
          have hon6 := (only_belowZ Honu.out hb5).setCell (k := o) (Nat.le_refl C) (Nat.lt_succ_self C) (.int .i64 (v + 1))
          have HO6 := Lib.hid hO6
          have Hon6 := Lib.hid hon6
          clear hO6 hon6
          clear hb5 hO5 q5 u0 u1 u2 u3 f0 f1 f2 f3
          go_wp2
          go_roundw
          case rel => exact ⟨j + 1, L.set o (v + 1), by omega, by go_num, HL32.out, HLx2.out, HLs2.out, HO6.out, Hon6.out⟩
          case measure => simp [intOf]; omega
        · have Hr := Lib.hid hr
          have Hgs := Lib.hid hgs
          have HLx := Lib.hid hLx
          have HLx2 := Lib.hid hLx2
          have HLs := Lib.hid hLs
          have HLs2 := Lib.hid hLs2
          have HO := Lib.hid hO
          have Hon := Lib.hid hon
          have Hbr := Lib.hid hbr
          have HL3 := Lib.hid hL3
          have Hin := Lib.hid hin
          have Hat := Lib.hid hat
          have HOm := Lib.hid hOm
          have HL32 := Lib.hid hL32
          have Hvm := Lib.hid hvm
          have Hv := Lib.hid hv
          have Hoc := Lib.hid hoc
          have HOu := Lib.hid hOu
          have Honu := Lib.hid honu
          have Ho := Lib.hid ho
          clear hr hgs hLx hLx2 hLs hLs2 hO hon hbr hL3 hin hat hOm hL32 hvm hv hoc hOu honu ho
          clear hbu o0 o2 v0 v1
          go_wp2_with fail
          refine (Hoc.out _).mono ?_
          rintro e w5 ⟨rfl, hb5⟩
          have hO5 := HOu.out.below (hb5.mono hzu)
          obtain ⟨g5, q5, _, _, cv, fv⟩ := hO5.at_ Hvm.out
          obtain rfl : C = g5 := by injection q5 with q; injection q
          have hO6 := hO5.set_ o (.int .i64 (v + 1))
          rw [HOm.out] at hO6
          have hon6 := (only_belowZ Honu.out hb5).setCell (k := o) (Nat.le_refl C) (Nat.lt_succ_self C) (.int .i64 (v + 1))
          have HO6 := Lib.hid hO6
          have Hon6 := Lib.hid hon6
          clear hO6 hon6
          clear hb5 hO5 q5 u0 u1 u2 u3 f0 f1 f2 f3
          go_wp2
          go_roundw
          case rel => exact ⟨j + 1, L.set o (v + 1), by omega, by go_num, HL32.out, HLx2.out, HLs2.out, HO6.out, Hon6.out⟩
          case measure => simp [intOf]; omega
      · have hat : at2 ⟨h, a, g, t⟩ k 1 1 = 0 := by unfold at2; rw [if_neg (fun e => hin (.inl e)), if_neg (fun e => hin (.inr e))]
        have e1 : (h == (k : Int)) = false := by simp; intro e; exact hin (.inl e.symm)
        have e2 : (a == (k : Int)) = false := by simp; intro e; exact hin (.inr e.symm)
        have hgs2 : L.sum = gam k (rs.take (j + 1)) := by rw [hgs, hat, hLs]; omega
        have hLx2 : ∀ x ∈ L, 0 ≤ x ∧ x ≤ ((j + 1 : Nat) : Int) := fun x hx => by have := hLx x hx; omega
        have Hr := Lib.hid hr
        have Hgs := Lib.hid hgs
        have Hgs2 := Lib.hid hgs2
        have HLx := Lib.hid hLx
        have HLx2 := Lib.hid hLx2
        have HLs := Lib.hid hLs
        have HOu := Lib.hid hOu
        have Honu := Lib.hid honu
        have HO := Lib.hid hO
        have Hon := Lib.hid hon
        have Hbr := Lib.hid hbr
        have HL3 := Lib.hid hL3
        have Hin := Lib.hid hin
        have Hat := Lib.hid hat
        clear hr hgs hgs2 hLx hLx2 hLs hOu honu hO hon hbr hL3 hin hat
        clear hbu
        go_wp2
        go_roundw
        case rel => exact ⟨j + 1, L, by omega, by go_num, HL3.out, HLx2.out, Hgs2.out, HOu.out, Honu.out⟩
        case measure => simp [intOf]; omega
    · obtain rfl : j = m := by omega
      rw [List.take_of_length_le (by rw [Hmm.out]; exact Nat.le_refl _)] at hLs
      match L, hL3 with
      | [x, y, z], _ =>
        obtain ⟨g0, q0, _, _, p0, _⟩ := hO.at_ (k := 0) rfl
        obtain ⟨g1, q1, _, _, p1, _⟩ := hO.at_ (k := 1) rfl
        obtain ⟨g2, q2, _, _, p2, _⟩ := hO.at_ (k := 2) rfl
        obtain rfl : C = g0 := by injection q0 with q; injection q
        obtain rfl : C = g1 := by injection q1 with q; injection q
        obtain rfl : C = g2 := by injection q2 with q; injection q
        have n0 : ∀ y' : Past wr, y'.now.cell? ⟨C, 0, none⟩ = some (.int .i64 x) := Past.cell p0
        have n1 : ∀ y' : Past wr, y'.now.cell? ⟨C, 1, none⟩ = some (.int .i64 y) := Past.cell p1
        have n2 : ∀ y' : Past wr, y'.now.cell? ⟨C, 2, none⟩ = some (.int .i64 z) := Past.cell p2
        have x0 := (hLx x (by simp)).1
        have y0 := (hLx y (by simp)).1
        have z0 := (hLx z (by simp)).1
        have hsum : z + y + x = gam k rs := by rw [← hLs]; simp; omega
        have HLx := Lib.hid hLx
        have HLs := Lib.hid hLs
        have HO := Lib.hid hO
        have Hon := Lib.hid hon
        have Hbr := Lib.hid hbr
        have Hsum := Lib.hid hsum
        have X0 := Lib.hid x0
        have Y0 := Lib.hid y0
        have Z0 := Lib.hid z0
        clear hLx hLs hO hon hbr hsum x0 y0 z0
        clear q0 q1 q2 p0 p1 p2
        go_wp2
        refine wp_region_past (by kernel_rfl) (by kernel_rfl) ?_
        repeat (go_big_quiet_step ((fail)))
        refine wpQuiet_nil ?_
        intro wx hwx
        obtain ⟨⟨wy, hbx⟩, hw⟩ := hwx
        change wx = wy at hw
        subst hw
        have Hbz := Lib.hid (Hbr.out.trans (hbx.mono Hbr.out.size))
        clear hbx n0 n1 n2
        go_wp2
        go_ret3
        exact ⟨z, y, x, rfl, Z0.out, Y0.out, X0.out, Hsum.out, Hbz.out⟩
/-! ### The away goals' winner, plain -/
theorem cmp_cases (x y : Int) : (x < y ∧ cmpI x y = -1 ∧ cmpI y x = 1) ∨ (y < x ∧ cmpI x y = 1 ∧ cmpI y x = -1) ∨ (x = y ∧ cmpI x y = 0 ∧ cmpI y x = 0) := by
  unfold cmpI
  rcases Int.lt_trichotomy x y with h | h | h
  · left; exact ⟨h, by rw [if_pos h], by rw [if_neg (by omega), if_pos h]⟩
  · subst h; right; right; simp
  · right; left; exact ⟨h, by rw [if_neg (by omega), if_pos h], by rw [if_pos h]⟩
theorem away_facts (g t p q : Int) : awayF 0 1 g t p q = awayF 1 0 p q g t ∧ -1 ≤ awayF 0 1 g t p q ∧ awayF 0 1 g t p q ≤ 1 ∧ (awayF 0 1 g t p q = -1 → g + q = t + p ∧ t = q) := by
  have e1 : p + t = t + p := by omega
  have e2 : q + g = g + q := by omega
  unfold awayF
  rw [e1, e2]
  rcases cmp_cases (g + q) (t + p) with ⟨h, a, b⟩ | ⟨h, a, b⟩ | ⟨h, a, b⟩ <;> rcases cmp_cases q t with ⟨k, c, d⟩ | ⟨k, c, d⟩ | ⟨k, c, d⟩ <;> rw [a, b, c, d] <;> simp [or2] <;> omega
end Go.Proofs.Ytehlijpjcjegcaa
