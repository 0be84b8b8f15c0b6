/- Contracts: places after the endings of a last day (program and reference). -/
import Derived.Test.YteigcfcabmoghaaDayE
namespace Go.Proofs.Yteigcfcabmoghaa
open Go.RowKit

def moreOf (b : Int) : Nat → List Int → Nat
  | s, [] => s
  | s, v :: r => moreOf b (if b < v then s + 1 else s) r
def sameOf (b : Int) (c : Nat) : Nat → Nat → List Int → Nat
  | s, _, [] => s
  | s, k, v :: r => sameOf b c (if v = b ∧ k ≠ c then s + 1 else s) (k + 1) r
theorem moreOf_le (b : Int) : ∀ (r : List Int) (s : Nat), s ≤ moreOf b s r ∧ moreOf b s r ≤ s + r.length
  | [], s => by simp [moreOf]
  | v :: r, s => by
    rw [List.length_cons]
    by_cases h : b < v
    · rw [moreOf, if_pos h]; have := moreOf_le b r (s + 1); omega
    · rw [moreOf, if_neg h]; have := moreOf_le b r s; omega
theorem moreOf_lt (b : Int) : ∀ (r : List Int) (s : Nat), b ∈ r → moreOf b s r < s + r.length
  | [], s, h => by simp at h
  | v :: r, s, h => by
    rw [List.length_cons]
    by_cases hbv : b < v
    · rw [moreOf, if_pos hbv]
      rcases List.mem_cons.1 h with rfl | h
      · exact absurd hbv (Int.lt_irrefl _)
      · have := moreOf_lt b r (s + 1) h; omega
    · rw [moreOf, if_neg hbv]
      have := (moreOf_le b r s).2; omega
theorem sameOf_le (b : Int) (c : Nat) : ∀ (r : List Int) (s k : Nat), s ≤ sameOf b c s k r ∧ sameOf b c s k r ≤ s + r.length
  | [], s, k => by simp [sameOf]
  | v :: r, s, k => by
    rw [List.length_cons]
    by_cases h : v = b ∧ k ≠ c
    · rw [sameOf, if_pos h]; have := sameOf_le b c r (s + 1) (k + 1); omega
    · rw [sameOf, if_neg h]; have := sameOf_le b c r s (k + 1); omega

set_option maxHeartbeats 1000000 in
theorem better_c (A : Option Addr) (c : Nat) (xs : List Int) (k : Nat) (b : Int) (w : World) (ha : Ints w A xs) (hb : xs[k]? = some b) (hm : xs.length ≤ 1048576) :
    Calls Try.prog 54 #[.slice A xs.length c, .int .i64 k] w (Quiet w (.int .i64 ((moreOf b 0 xs : Nat) : Int))) := by
  generalize hR : moreOf b 0 xs = R
  have HR := Lib.hid hR
  clear hR
  have hk := lt_of hb
  have hk' : (k : Int) < (xs.length : Int) := by omega
  have Ha := Lib.hid ha
  have Hb := Lib.hid hb
  clear ha hb
  go_enter Try.func54, Try.ntmps54
  go_wp2
  go_loopw [10, 5] (fun i m wr => ∃ (j s : Nat), j ≤ xs.length ∧ i = .int .i64 j ∧ m = .int .i64 s ∧ s ≤ j ∧ moreOf b s (xs.drop j) = R ∧ Dr w wr) (fun i _ _ => xs.length - (intOf i).toNat)
  case atStart => exact ⟨0, 0, Nat.zero_le _, rfl, rfl, Nat.le_refl _, HR.out, Dr.refl _⟩
  case round =>
    obtain ⟨j, s, hj, rfl, rfl, hs, hS, hd⟩ := hrel
    have HS := Lib.hid hS
    have Hd := Lib.hid hd
    clear hS hd
    by_cases hlt : j < xs.length
    · obtain ⟨v, hv⟩ := some_of hlt
      obtain ⟨ad, rfl, hca⟩ := Ha.out.keep Hd.out.keep j v hv
      obtain ⟨ad', e', hcb⟩ := Ha.out.keep Hd.out.keep k b Hb.out
      obtain rfl : ad = ad' := by injection e'
      clear e'
      by_cases hbv : b < v
      · have HS2 : Hid (moreOf b (s + 1) (xs.drop (j + 1)) = R) := Lib.hid (by have := HS.out; rwa [drop_of hv, moreOf, if_pos hbv] at this)
        have Hv := Lib.hid hv
        clear hv
        go_wp2
        go_roundw
        case rel => exact ⟨j + 1, s + 1, by omega, by go_num, by go_num, by omega, HS2.out, Hd.out⟩
        case measure => simp [intOf]; omega
      · have HS2 : Hid (moreOf b s (xs.drop (j + 1)) = R) := Lib.hid (by have := HS.out; rwa [drop_of hv, moreOf, if_neg hbv] at this)
        have Hv := Lib.hid hv
        clear hv
        go_wp2
        go_roundw
        case rel => exact ⟨j + 1, s, by omega, by go_num, by go_num, by omega, HS2.out, Hd.out⟩
        case measure => simp [intOf]; omega
    · obtain rfl : j = xs.length := by omega
      have HS2 : Hid (s = R) := Lib.hid (by have := HS.out; rwa [List.drop_length, moreOf] at this)
      go_wp2
      go_ret
      exact ⟨ret_int (by rw [HS2.out]), Hd.out⟩

set_option maxHeartbeats 1000000 in
theorem l15Above_c (A : Option Addr) (c : Nat) (xs : List Int) (k : Nat) (b : Int) (w : World) (ha : Ints w A xs) (hb : xs[k]? = some b) (hm : xs.length ≤ 1048576) :
    Calls Try.prog 51 #[.slice A xs.length c, .int .i64 k] w (Quiet w (.tuple #[.int .i64 ((moreOf b 0 xs : Nat) : Int), .int .i64 ((sameOf b k 0 0 xs : Nat) : Int)])) := by
  generalize hR : moreOf b 0 xs = R
  have HR := Lib.hid hR
  clear hR
  generalize hS : sameOf b k 0 0 xs = S
  have HS := Lib.hid hS
  clear hS
  have hk := lt_of hb
  have hk' : (k : Int) < (xs.length : Int) := by omega
  have Ha := Lib.hid ha
  have Hb := Lib.hid hb
  clear ha hb
  go_enter Try.func51, Try.ntmps51
  go_wp2
  go_loopw [12, 6, 7] (fun i m q wr => ∃ (j s t : Nat), j ≤ xs.length ∧ i = .int .i64 j ∧ m = .int .i64 s ∧ q = .int .i64 t ∧ s ≤ j ∧ t ≤ j ∧ moreOf b s (xs.drop j) = R ∧ sameOf b k t j (xs.drop j) = S ∧ Dr w wr) (fun i _ _ _ => xs.length - (intOf i).toNat)
  case atStart => exact ⟨0, 0, 0, Nat.zero_le _, rfl, rfl, rfl, Nat.le_refl _, Nat.le_refl _, HR.out, HS.out, Dr.refl _⟩
  case round =>
    clear HS HR
    obtain ⟨j, s, t, hj, rfl, rfl, rfl, hs, ht, hR, hS, hd⟩ := hrel
    have HR := Lib.hid hR
    have HS := Lib.hid hS
    have Hd := Lib.hid hd
    clear hR hS hd
    by_cases hlt : j < xs.length
    · obtain ⟨v, hv⟩ := some_of hlt
      obtain ⟨ad, rfl, hca⟩ := Ha.out.keep Hd.out.keep j v hv
      obtain ⟨ad', e', hcb⟩ := Ha.out.keep Hd.out.keep k b Hb.out
      obtain rfl : ad = ad' := by injection e'
      clear e'
      have HR2 : Hid (moreOf b (if b < v then s + 1 else s) (xs.drop (j + 1)) = R) := Lib.hid (by have := HR.out; rwa [drop_of hv, moreOf] at this)
      have HS2 : Hid (sameOf b k (if v = b ∧ j ≠ k then t + 1 else t) (j + 1) (xs.drop (j + 1)) = S) := Lib.hid (by have := HS.out; rwa [drop_of hv, sameOf] at this)
      have Hv := Lib.hid hv
      clear hv
      by_cases hvb : v = b
      · have hvb' : (v == b) = true := by simpa using hvb
        have hbv : ¬ b < v := by omega
        have HR3 : Hid (moreOf b s (xs.drop (j + 1)) = R) := Lib.hid (by have := HR2.out; rwa [if_neg hbv] at this)
        by_cases hjk : j = k
        · have hjk' : ((j : Int) != (k : Int)) = false := by simp; omega
          have HS3 : Hid (sameOf b k t (j + 1) (xs.drop (j + 1)) = S) := Lib.hid (by have := HS2.out; rwa [if_neg (fun h => h.2 hjk)] at this)
          have Hvb := Lib.hid hvb
          have Hjk := Lib.hid hjk
          clear hvb hjk
          go_wp2
          go_roundw
          case rel => exact ⟨j + 1, s, t, by omega, by go_num, by go_num, by go_num, by omega, by omega, HR3.out, HS3.out, Hd.out⟩
          case measure => simp [intOf]; omega
        · have hjk' : ((j : Int) != (k : Int)) = true := by simp; omega
          have HS3 : Hid (sameOf b k (t + 1) (j + 1) (xs.drop (j + 1)) = S) := Lib.hid (by have := HS2.out; rwa [if_pos ⟨hvb, hjk⟩] at this)
          have Hvb := Lib.hid hvb
          have Hjk := Lib.hid hjk
          clear hvb hjk
          go_wp2
          go_roundw
          case rel => exact ⟨j + 1, s, t + 1, by omega, by go_num, by go_num, by go_num, by omega, by omega, HR3.out, HS3.out, Hd.out⟩
          case measure => simp [intOf]; omega
      · have hvb' : (v == b) = false := by simpa using hvb
        have HS3 : Hid (sameOf b k t (j + 1) (xs.drop (j + 1)) = S) := Lib.hid (by have := HS2.out; rwa [if_neg (fun h => hvb h.1)] at this)
        have Hvb := Lib.hid hvb
        clear hvb
        by_cases hbv : b < v
        · have HR3 : Hid (moreOf b (s + 1) (xs.drop (j + 1)) = R) := Lib.hid (by have := HR2.out; rwa [if_pos hbv] at this)
          go_wp2
          go_roundw
          case rel => exact ⟨j + 1, s + 1, t, by omega, by go_num, by go_num, by go_num, by omega, by omega, HR3.out, HS3.out, Hd.out⟩
          case measure => simp [intOf]; omega
        · have HR3 : Hid (moreOf b s (xs.drop (j + 1)) = R) := Lib.hid (by have := HR2.out; rwa [if_neg hbv] at this)
          go_wp2
          go_roundw
          case rel => exact ⟨j + 1, s, t, by omega, by go_num, by go_num, by go_num, by omega, by omega, HR3.out, HS3.out, Hd.out⟩
          case measure => simp [intOf]; omega
    · obtain rfl : j = xs.length := by omega
      have HR2 : Hid (s = R) := Lib.hid (by have := HR.out; rwa [List.drop_length, moreOf] at this)
      have HS2 : Hid (t = S) := Lib.hid (by have := HS.out; rwa [List.drop_length, sameOf] at this)
      go_wp2
      go_ret2
      exact ⟨by rw [HR2.out, HS2.out]; rfl, Hd.out⟩

/-- The places of a club over some endings, counted. -/
def places (pts : List Int) (games : List (List Int)) (c : Nat) : List Int → List (List Int) → List Int
  | out, [] => out
  | out, e :: E => places pts games c (addAt out (moreOf ((afterD pts games e).getD c 0) 0 (afterD pts games e)) 1) E
def placesF (pts : List Int) (games : List (List Int)) (k : Int) : List Int := if ofDay pts games k = true then places pts games k.toNat (List.replicate pts.length 0) (endF games.length) else []
theorem places_length (pts : List Int) (games : List (List Int)) (c : Nat) : ∀ (E : List (List Int)) (out : List Int), (places pts games c out E).length = out.length
  | [], _ => rfl
  | e :: E, out => by rw [places, places_length pts games c E, addAt_len]
theorem addAt_bound1 {out : List Int} {k : Nat} {b : Int} (h : ∀ x ∈ out, 0 ≤ x ∧ x ≤ b) (hb : 0 ≤ b) : ∀ x ∈ addAt out k 1, 0 ≤ x ∧ x ≤ b + 1 := by
  intro x hx
  rcases List.mem_or_eq_of_mem_set hx with hx | rfl
  · have := h x hx; omega
  · rw [List.getD_eq_getElem?_getD]
    cases hk : out[k]? with
    | none => simp; omega
    | some u => have := h u (List.mem_of_getElem? hk); simp; omega

set_option maxHeartbeats 4000000 in
theorem iCountPlaces_c (A B : Option Addr) (c d : Nat) (points : List Int) (games : List (List Int)) (k : Int) (w : World) (ha : Ints w A points) (hb : Rows w B games) (hm : points.length ≤ 1048576) :
    Calls Try.prog 30 #[.slice A points.length c, .slice B games.length d, .int .i64 k] w (GivesI 3 w (placesF points games k)) := by
  generalize hR : placesF points games k = R
  have HR := Lib.hid hR
  clear hR
  have Ha := Lib.hid ha
  have Hb := Lib.hid hb
  clear ha hb
  cases h1 : ofDay points games k
  · have HS : Hid ([] = R) := Lib.hid (by rw [← HR.out]; simp [placesF, h1])
    have H1 := Lib.hid h1
    clear h1
    go_enter Try.func30, Try.ntmps30
    go_wp2_with fail
    refine (gives_v (isOfDay_c _ _ _ _ _ _ _ _ Ha.out Hb.out hm) (congrArg Value.bool H1.out)).mono ?_
    rintro e w1 ⟨rfl, hb1⟩
    go_wp2
    go_ret
    rw [← HS.out]
    exact ⟨none, 0, rfl, Own.nil .., hb1⟩
  · obtain ⟨hdok, p, rfl, hp⟩ := ofDay_day h1
    obtain ⟨hday, hpt⟩ := day_of hdok
    have HS : Hid (places points games p (List.replicate points.length 0) ((endF games.length).drop 0) = R) := Lib.hid (by rw [← HR.out]; simp [placesF, h1])
    have hfew := hday.few
    have hn8 := hday.eight
    obtain ⟨N, hN⟩ : ∃ N, (endF games.length).length = N := ⟨_, rfl⟩
    have hN81 : N ≤ 81 := by rw [← hN, endF_length]; exact Nat.le_trans (Nat.pow_le_pow_right (by decide) hfew) (by decide)
    have H1 := Lib.hid h1
    have Hday := Lib.hid hday
    have Hpt := Lib.hid hpt
    have Hdok := Lib.hid hdok
    clear h1 hday hpt hdok
    go_enter Try.func30, Try.ntmps30
    go_wp2_with fail
    refine (gives_v (isOfDay_c _ _ _ _ _ _ _ _ Ha.out Hb.out hm) (congrArg Value.bool H1.out)).mono ?_
    rintro e w1 ⟨rfl, hb1⟩
    have Hb1 := Lib.hid hb1
    clear hb1
    go_wp2_with (refine wpList_mk w1 rfl (.tmp 16) (.tmp 16) 22 rfl 3 (.int .i64 0) 8 Try.underlying22 info_int rfl points.length ?_ ?_ ?_ ?_ ?_; rfl; rfl; decide; omega; intro w2 homade hb2 hz2)
    have ho0 : Own 3 w1.heap.size w2.heap.size w2 (some ⟨w1.heap.size, 0, none⟩) points.length ((List.replicate points.length (0 : Int)).map (.int .i64)) := by simpa using homade
    have Hb2 := Lib.hid (Hb1.out.trans (hb2.mono Hb1.out.size))
    have hz1 : w.heap.size ≤ w1.heap.size := Hb1.out.size
    clear homade hb2
    have Ho0 := Lib.hid ho0
    clear ho0
    go_wp2_with fail
    refine (endingsOf_c _ _ _ _ hfew).mono ?_
    rintro e w3 ⟨C, cc, rfl, he3, hb3⟩
    rw [hN]
    have Ho3 := Lib.hid (Ho0.out.below hb3)
    have Hb3 := Lib.hid (Hb2.out.trans (hb3.mono Hb2.out.size))
    have hz3 : w2.heap.size ≤ w3.heap.size := hb3.size
    have He3 := Lib.hid he3
    have HN := Lib.hid hN
    clear he3 hN
    clear hb3
    go_wp2
    go_loopw [21] (fun i wr => ∃ (j : Nat) (out : List Int), j ≤ N ∧ i = .int .i64 j ∧ out.length = points.length ∧ (∀ x ∈ out, 0 ≤ x ∧ x ≤ (j : Int)) ∧ places points games p out ((endF games.length).drop j) = R ∧ Own 3 w1.heap.size w2.heap.size wr (some ⟨w1.heap.size, 0, none⟩) points.length (out.map (.int .i64)) ∧
      Own2 3 22 w2.heap.size w3.heap.size wr C cc (endF games.length) ∧ Below w.heap.size w wr ∧ w3.heap.size ≤ wr.heap.size) (fun i _ => N - (intOf i).toNat)
    case atStart => exact ⟨0, List.replicate points.length 0, Nat.zero_le _, rfl, by simp, fun x hx => by rw [List.mem_replicate] at hx; omega, HS.out, Ho3.out, He3.out, Hb3.out, Nat.le_refl _⟩
    case round =>
      obtain ⟨j, out, hj, rfl, hlo, hbd, hS, ho, he, hdn, hzr⟩ := hrel
      have Hlo := Lib.hid hlo
      have Hbd := Lib.hid hbd
      have HS := Lib.hid hS
      have Ho := Lib.hid ho
      have He := Lib.hid he
      have Hdn := Lib.hid hdn
      clear hlo hbd hS ho he hdn
      by_cases hlt : j < N
      · obtain ⟨e, hx⟩ := some_of (l := endF games.length) (k := j) (by rw [HN.out]; exact hlt)
        obtain ⟨bd, b', c', rfl, _, _, hca, hia⟩ := He.out.rows j e hx
        obtain ⟨hel, hen⟩ := endF_row _ e (List.mem_of_getElem? hx)
        obtain ⟨D, hD⟩ : ∃ D, afterD points games e = D := ⟨_, rfl⟩
        have hDl : D.length = points.length := by rw [← hD, afterD_len]
        obtain ⟨b, hbk⟩ := some_of (l := D) (k := p) (by rw [hDl]; exact hp)
        obtain ⟨m, hmm⟩ : ∃ m, moreOf b 0 D = m := ⟨_, rfl⟩
        have hmn : m < points.length := by rw [← hmm, ← hDl]; have := moreOf_lt b D 0 (List.mem_of_getElem? hbk); omega
        have HS2 : Hid (places points games p (addAt out m 1) ((endF games.length).drop (j + 1)) = R) := Lib.hid (by
          have := HS.out
          rw [drop_of hx, places, hD] at this
          rwa [show D.getD p 0 = b from by simp [hbk], hmm] at this)
        have hac := afterDay_c A B b' c d c' points games e wr (Ha.out.keep (keep_of_below Hdn.out)) (Hb.out.keep (keep_of_below Hdn.out)) hia Hpt.out Hday.out hel hen
        rw [hD] at hac
        rw [hel] at hac hca
        have Hx := Lib.hid hx
        have Hel := Lib.hid hel
        have Hen := Lib.hid hen
        have HD := Lib.hid hD
        have Hac := Lib.hid hac
        have Hbk := Lib.hid hbk
        have Hmm := Lib.hid hmm
        have HDl := Lib.hid hDl
        clear hx hel hen hD hac hbk hmm hDl
        clear hia
        go_wp2_with fail
        refine Hac.out.mono ?_
        rintro e' w4 ⟨C4, c4, rfl, ho4, hb4⟩
        have Hi4 := Lib.hid ho4.ints
        have Hdn4 := Lib.hid (Hdn.out.trans (hb4.mono Hdn.out.size))
        have Ho4 := Lib.hid (Ho.out.below (hb4.mono (by omega : w2.heap.size ≤ wr.heap.size)))
        have He4 := Lib.hid (He.out.below (hb4.mono hzr))
        have hz4 : w3.heap.size ≤ w4.heap.size := Nat.le_trans hzr hb4.size
        clear ho4 hb4 hca
        go_wp2_with fail
        refine (calls_v (better_c C4 c4 D p b w4 Hi4.out Hbk.out (by rw [HDl.out]; exact hm)) (congrArg (fun x : Nat => Value.int .i64 x) Hmm.out)).mono ?_
        rintro e' w5 ⟨rfl, hq5⟩
        have Hdn5 := Lib.hid (below_dr Hdn4.out hq5)
        have ho5 := Ho4.out.below (hq5.below w2.heap.size)
        have He5 := Lib.hid (He4.out.below (hq5.below _))
        have hz5 : w3.heap.size ≤ w5.heap.size := Nat.le_trans hz4 (hq5.below 0).size
        have hmo : m < out.length := by rw [Hlo.out]; exact hmn
        obtain ⟨u, k1, k2, k3, ho6⟩ := one_add ho5 hmo 1
        have hu := Hbd.out u (getD_mem hmo k3)
        have wu : IntKind.i64.wrap (u + 1) = u + 1 := IntWalk.i64_in _ (by omega)
        have hbs := Hdn5.out.setCell (p := ⟨w1.heap.size, m, none⟩) hz1 (.int .i64 (u + 1))
        have hon : Only w1.heap.size w2.heap.size w5 (w5.setCell ⟨w1.heap.size, m, none⟩ (.int .i64 (u + 1))) := (Only.refl _ _ _).setCell (Nat.le_refl _) hz2 _
        have he6 := He5.out.only hon hz5 (.inr (Nat.le_refl _))
        have hzs : w3.heap.size ≤ (w5.setCell ⟨w1.heap.size, m, none⟩ (.int .i64 (u + 1))).heap.size := by rw [setCell_size]; exact hz5
        have hbd2 : ∀ x ∈ addAt out m 1, 0 ≤ x ∧ x ≤ ((j + 1 : Nat) : Int) := fun x hx => by
          have := addAt_bound1 (k := m) Hbd.out (by omega) x hx
          omega
        have hmw : (m : Int) < (points.length : Int) := by omega
        have K3 := Lib.hid k3
        have Ho6 := Lib.hid ho6
        have Hbs := Lib.hid hbs
        have He6 := Lib.hid he6
        have Hbd2 := Lib.hid hbd2
        clear k3 ho6 hbs he6 hbd2
        clear hu hon ho5 hq5
        go_wp2
        go_roundw
        case rel => exact ⟨j + 1, _, by omega, by go_num, by rw [addAt_len]; exact Hlo.out, Hbd2.out, HS2.out, Ho6.out, He6.out, Hbs.out, hzs⟩
        case measure => simp [intOf]; omega
      · obtain rfl : j = N := by omega
        have HS2 : Hid (out = R) := Lib.hid (by have := HS.out; rwa [List.drop_of_length_le (by rw [HN.out]; exact Nat.le_refl _), places] at this)
        go_wp2
        go_ret
        rw [← HS2.out]
        exact ⟨some ⟨w1.heap.size, 0, none⟩, points.length, by rw [Hlo.out]; rfl, Ho.out.wide hz1 (by omega), Hdn.out⟩

set_option maxHeartbeats 4000000 in
theorem sCountPlaces_c (A B : Option Addr) (c d : Nat) (points : List Int) (games : List (List Int)) (k : Int) (w : World) (ha : Ints w A points) (hb : Rows w B games) (hm : points.length ≤ 1048576) :
    Calls Try.prog 29 #[.slice A points.length c, .slice B games.length d, .int .i64 k] w (GivesI 3 w (placesF points games k)) := by
  generalize hR : placesF points games k = R
  have HR := Lib.hid hR
  clear hR
  have Ha := Lib.hid ha
  have Hb := Lib.hid hb
  clear ha hb
  cases h1 : ofDay points games k
  · have HS : Hid ([] = R) := Lib.hid (by rw [← HR.out]; simp [placesF, h1])
    have H1 := Lib.hid h1
    clear h1
    go_enter Try.func29, Try.ntmps29
    go_wp2_with fail
    refine (gives_v (l15Ok_c _ _ _ _ _ _ _ _ Ha.out Hb.out hm) (congrArg Value.bool H1.out)).mono ?_
    rintro e w1 ⟨rfl, hb1⟩
    go_wp2
    go_ret
    rw [← HS.out]
    exact ⟨none, 0, rfl, Own.nil .., hb1⟩
  · obtain ⟨hdok, p, rfl, hp⟩ := ofDay_day h1
    obtain ⟨hday, hpt⟩ := day_of hdok
    have HS : Hid (places points games p (List.replicate points.length 0) ((endF games.length).drop 0) = R) := Lib.hid (by rw [← HR.out]; simp [placesF, h1])
    have hfew := hday.few
    have hn8 := hday.eight
    obtain ⟨N, hN⟩ : ∃ N, 3 ^ games.length = N := ⟨_, rfl⟩
    have hN81 : N ≤ 81 := by rw [← hN]; exact Nat.le_trans (Nat.pow_le_pow_right (by decide) hfew) (by decide)
    have Hcnt := Lib.hid (fun W => calls_v (l15Count_c games.length W hfew) (congrArg (fun x : Nat => Value.int .i64 x) hN))
    have H1 := Lib.hid h1
    have Hday := Lib.hid hday
    have Hpt := Lib.hid hpt
    have Hdok := Lib.hid hdok
    have HN := Lib.hid hN
    clear h1 hday hpt hdok hN
    go_enter Try.func29, Try.ntmps29
    go_wp2_with fail
    refine (gives_v (l15Ok_c _ _ _ _ _ _ _ _ Ha.out Hb.out hm) (congrArg Value.bool H1.out)).mono ?_
    rintro e w1 ⟨rfl, hb1⟩
    have Hb1 := Lib.hid hb1
    clear hb1
    go_wp2_with (refine wpList_mk w1 rfl (.tmp 17) (.tmp 17) 22 rfl 3 (.int .i64 0) 8 Try.underlying22 info_int rfl points.length ?_ ?_ ?_ ?_ ?_; rfl; rfl; decide; omega; intro w2 homade hb2 hz2)
    have ho0 : Own 3 w1.heap.size w2.heap.size w2 (some ⟨w1.heap.size, 0, none⟩) points.length ((List.replicate points.length (0 : Int)).map (.int .i64)) := by simpa using homade
    have Hb2 := Lib.hid (Hb1.out.trans (hb2.mono Hb1.out.size))
    have hz1 : w.heap.size ≤ w1.heap.size := Hb1.out.size
    clear homade hb2
    have Ho0 := Lib.hid ho0
    clear ho0
    go_wp2
    go_loopw [8] (fun i wr => ∃ (j : Nat) (out : List Int), j ≤ N ∧ i = .int .i64 j ∧ out.length = points.length ∧ (∀ x ∈ out, 0 ≤ x ∧ x ≤ (j : Int)) ∧ places points games p out ((endF games.length).drop j) = R ∧ Own 3 w1.heap.size w2.heap.size wr (some ⟨w1.heap.size, 0, none⟩) points.length (out.map (.int .i64)) ∧
      Below w.heap.size w wr ∧ w2.heap.size ≤ wr.heap.size) (fun i _ => N - (intOf i).toNat)
    case atStart => exact ⟨0, List.replicate points.length 0, Nat.zero_le _, rfl, by simp, fun x hx => by rw [List.mem_replicate] at hx; omega, HS.out, Ho0.out, Hb2.out, Nat.le_refl _⟩
    case round =>
      obtain ⟨j, out, hj, rfl, hlo, hbd, hS, ho, hdn, hzr⟩ := hrel
      have Hlo := Lib.hid hlo
      have Hbd := Lib.hid hbd
      have HS := Lib.hid hS
      have Ho := Lib.hid ho
      have Hdn := Lib.hid hdn
      clear hlo hbd hS ho hdn
      by_cases hlt : j < N
      · have hx : (endF games.length)[j]? = some (digits games.length j) := endF_at _ _ (by rw [HN.out]; exact hlt)
        obtain ⟨e, hee⟩ : ∃ e, digits games.length j = e := ⟨_, rfl⟩
        rw [hee] at hx
        obtain ⟨hel, hen⟩ := endF_row _ e (List.mem_of_getElem? hx)
        obtain ⟨D, hD⟩ : ∃ D, afterD points games e = D := ⟨_, rfl⟩
        have hDl : D.length = points.length := by rw [← hD, afterD_len]
        obtain ⟨b, hbk⟩ := some_of (l := D) (k := p) (by rw [hDl]; exact hp)
        obtain ⟨m, hmm⟩ : ∃ m, moreOf b 0 D = m := ⟨_, rfl⟩
        have hmn : m < points.length := by rw [← hmm, ← hDl]; have := moreOf_lt b D 0 (List.mem_of_getElem? hbk); omega
        have HS2 : Hid (places points games p (addAt out m 1) ((endF games.length).drop (j + 1)) = R) := Lib.hid (by
          have := HS.out
          rw [drop_of hx, places, hD] at this
          rwa [show D.getD p 0 = b from by simp [hbk], hmm] at this)
        have Hx := Lib.hid hx
        have Hel := Lib.hid hel
        have Hen := Lib.hid hen
        have HD := Lib.hid hD
        have Hbk := Lib.hid hbk
        have Hmm := Lib.hid hmm
        have HDl := Lib.hid hDl
        have Hee := Lib.hid hee
        clear hx hel hen hD hbk hmm hDl hee
        go_wp2_with fail
        refine (Hcnt.out _).mono ?_
        rintro e' w3 ⟨rfl, hq3⟩
        have Hdn3 := Lib.hid (below_dr Hdn.out hq3)
        have Ho3 := Lib.hid (Ho.out.below (hq3.below _))
        have hz3 : w2.heap.size ≤ w3.heap.size := Nat.le_trans hzr (hq3.below 0).size
        clear hq3
        go_wp2_with fail
        refine (l15Ending_c games.length j _ hfew (by omega)).mono ?_
        rintro e' w4 ⟨C4, c4, e4, ho4, hb4⟩
        rw [Hee.out, Hel.out] at e4
        rw [Hee.out] at ho4
        subst e4
        have Hi4 := Lib.hid ho4.ints
        have Hdn4 := Lib.hid (Hdn3.out.trans (hb4.mono Hdn3.out.size))
        have Ho4 := Lib.hid (Ho3.out.below (hb4.mono hz3))
        have hz4 : w2.heap.size ≤ w4.heap.size := Nat.le_trans hz3 hb4.size
        clear ho4 hb4
        have hac := l15After_c A B C4 c d c4 points games e w4 (Ha.out.keep (keep_of_below Hdn4.out)) (Hb.out.keep (keep_of_below Hdn4.out)) Hi4.out Hpt.out Hday.out Hel.out Hen.out
        rw [HD.out, Hel.out] at hac
        have Hac := Lib.hid hac
        clear hac
        go_wp2_with fail
        refine Hac.out.mono ?_
        rintro e' w5 ⟨C5, c5, rfl, ho5, hb5⟩
        have Hi5 := Lib.hid ho5.ints
        have Hdn5 := Lib.hid (Hdn4.out.trans (hb5.mono Hdn4.out.size))
        have Ho5 := Lib.hid (Ho4.out.below (hb5.mono hz4))
        have hz5 : w2.heap.size ≤ w5.heap.size := Nat.le_trans hz4 hb5.size
        clear ho5 hb5
        obtain ⟨sm, hsm⟩ : ∃ sm, sameOf b p 0 0 D = sm := ⟨_, rfl⟩
        have hab := l15Above_c C5 c5 D p b w5 Hi5.out Hbk.out (by rw [HDl.out]; exact hm)
        rw [Hmm.out, hsm] at hab
        have Hsm := Lib.hid hsm
        have Hab := Lib.hid hab
        clear hsm hab
        go_wp2_with fail
        refine Hab.out.mono ?_
        rintro e' w6 ⟨rfl, hq6⟩
        have Hdn6 := Lib.hid (below_dr Hdn5.out hq6)
        have ho6 := Ho5.out.below (hq6.below w2.heap.size)
        have hz6 : w2.heap.size ≤ w6.heap.size := Nat.le_trans hz5 (hq6.below 0).size
        have hmo : m < out.length := by rw [Hlo.out]; exact hmn
        obtain ⟨u, k1, k2, k3, ho7⟩ := one_add ho6 hmo 1
        have hu := Hbd.out u (getD_mem hmo k3)
        have wu : IntKind.i64.wrap (u + 1) = u + 1 := IntWalk.i64_in _ (by omega)
        have hbs := Hdn6.out.setCell (p := ⟨w1.heap.size, m, none⟩) hz1 (.int .i64 (u + 1))
        have hzs : w2.heap.size ≤ (w6.setCell ⟨w1.heap.size, m, none⟩ (.int .i64 (u + 1))).heap.size := by rw [setCell_size]; exact hz6
        have hbd2 : ∀ x ∈ addAt out m 1, 0 ≤ x ∧ x ≤ ((j + 1 : Nat) : Int) := fun x hx => by
          have := addAt_bound1 (k := m) Hbd.out (by omega) x hx
          omega
        have hmw : (m : Int) < (points.length : Int) := by omega
        have K3 := Lib.hid k3
        have Ho7 := Lib.hid ho7
        have Hbs := Lib.hid hbs
        have Hbd2 := Lib.hid hbd2
        clear k3 ho7 hbs hbd2
        clear hu ho6 hq6
        go_wp2
        go_roundw
        case rel => exact ⟨j + 1, _, by omega, by go_num, by rw [addAt_len]; exact Hlo.out, Hbd2.out, HS2.out, Ho7.out, Hbs.out, hzs⟩
        case measure => simp [intOf]; omega
      · obtain rfl : j = N := by omega
        have HS2 : Hid (out = R) := Lib.hid (by have := HS.out; rwa [List.drop_of_length_le (by rw [endF_length, HN.out]; exact Nat.le_refl _), places] at this)
        go_wp2_with fail
        refine (Hcnt.out _).mono ?_
        rintro e' w3 ⟨rfl, hq3⟩
        go_wp2
        go_ret
        rw [← HS2.out]
        exact ⟨some ⟨w1.heap.size, 0, none⟩, points.length, by rw [Hlo.out]; rfl, (Ho.out.below (hq3.below _)).wide hz1 (Nat.le_trans hzr (hq3.below 0).size), below_dr Hdn.out hq3⟩
end Go.Proofs.Yteigcfcabmoghaa
