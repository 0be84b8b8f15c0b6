/- Contracts: all endings of a last day (program and reference). -/
import Derived.Test.YteigcfcabmoghaaDayA
namespace Go.Proofs.Yteigcfcabmoghaa
open Go.RowKit

/-- The endings of n games, in lexicographic order. -/
def endF : Nat → List (List Int)
  | 0 => [[]]
  | n + 1 => (endF n).flatMap fun e => [e ++ [0], e ++ [1], e ++ [2]]
theorem endF_length : ∀ n, (endF n).length = 3 ^ n
  | 0 => rfl
  | n + 1 => by
    rw [endF, List.length_flatMap]
    simp only [List.length_cons, List.length_nil, List.map_const', List.sum_replicate_nat, endF_length n]
    rw [Nat.pow_succ]
theorem endF_pos (n : Nat) : 1 ≤ (endF n).length := by rw [endF_length]; exact Nat.one_le_pow _ _ (by decide)
theorem endF_row : ∀ (n : Nat) (e : List Int), e ∈ endF n → e.length = n ∧ ∀ v ∈ e, 0 ≤ v ∧ v ≤ 2
  | 0, e, h => by simp [endF] at h; subst h; simp
  | n + 1, e, h => by
    simp only [endF, List.mem_flatMap] at h
    obtain ⟨e', h1, h2⟩ := h
    obtain ⟨h3, h4⟩ := endF_row n e' h1
    simp only [List.mem_cons, List.not_mem_nil, or_false] at h2
    rcases h2 with rfl | rfl | rfl
    all_goals
      refine ⟨by simp [h3], fun v hv => ?_⟩
      rcases List.mem_append.1 hv with hv | hv
      · exact h4 v hv
      · rw [List.mem_singleton] at hv; omega
theorem flat3_at {α : Type} (f g h : α → α) : ∀ (l : List α) (q r : Nat) (x : α), l[q]? = some x → r < 3 → (l.flatMap fun e => [f e, g e, h e])[3 * q + r]? = some (if r = 0 then f x else if r = 1 then g x else h x)
  | [], q, r, x, hq, _ => by simp at hq
  | y :: l, 0, r, x, hq, hr => by
    simp at hq; subst hq
    rw [List.flatMap_cons]
    match r, hr with
    | 0, _ => rfl
    | 1, _ => rfl
    | 2, _ => rfl
  | y :: l, q + 1, r, x, hq, hr => by
    rw [List.flatMap_cons, List.getElem?_append_right (by simp; omega)]
    have := flat3_at f g h l q r x (by simpa using hq) hr
    rw [← this]
    congr 1
    simp; omega
/-- The digits of a number in base three, n of them. -/
def digits : Nat → Nat → List Int
  | 0, _ => []
  | n + 1, x => digits n (x / 3) ++ [((x % 3 : Nat) : Int)]
theorem digits_length : ∀ n x, (digits n x).length = n
  | 0, _ => rfl
  | n + 1, x => by rw [digits, List.length_append, digits_length n]; rfl
theorem endF_at : ∀ (n i : Nat), i < 3 ^ n → (endF n)[i]? = some (digits n i)
  | 0, i, h => by
    have : i = 0 := by simpa using h
    subst this; rfl
  | n + 1, i, h => by
    rw [Nat.pow_succ] at h
    have ih := endF_at n (i / 3) (by omega)
    have := flat3_at (fun e => e ++ [(0 : Int)]) (fun e => e ++ [1]) (fun e => e ++ [2]) (endF n) (i / 3) (i % 3) (digits n (i / 3)) ih (Nat.mod_lt _ (by decide))
    rw [show 3 * (i / 3) + i % 3 = i from by omega] at this
    rw [endF, this, digits]
    have h3 := Nat.mod_lt i (show 3 > 0 by decide)
    generalize i % 3 = r at h3
    match r, h3 with
    | 0, _ => rfl
    | 1, _ => rfl
    | 2, _ => rfl

set_option maxHeartbeats 400000 in
theorem l15Count_c (n : Nat) (w : World) (hn : n ≤ 4) : Calls Try.prog 48 #[.int .i64 n] w (Quiet w (.int .i64 ((3 ^ n : Nat) : Int))) := by
  generalize hR : 3 ^ n = R
  have HR := Lib.hid hR
  clear hR
  go_enter Try.func48, Try.ntmps48
  go_wp2
  go_loopw [4, 3] (fun i m wr => ∃ (k b : Nat), k ≤ n ∧ i = .int .i64 k ∧ m = .int .i64 b ∧ b = 3 ^ k ∧ b ≤ 81 ∧ Dr w wr) (fun i _ _ => n - (intOf i).toNat)
  case atStart => exact ⟨0, 1, Nat.zero_le _, rfl, rfl, rfl, by decide, Dr.refl _⟩
  case round =>
    obtain ⟨k, b, hk, rfl, rfl, hb, hb81, hd⟩ := hrel
    have Hd := Lib.hid hd
    have Hb := Lib.hid hb
    clear hd hb
    by_cases hlt : k < n
    · have h27 : b ≤ 27 := by rw [Hb.out]; exact Nat.le_trans (Nat.pow_le_pow_right (by decide) (by omega : k ≤ 3)) (by decide)
      have Hb2 : Hid (3 * b = 3 ^ (k + 1)) := Lib.hid (by rw [Hb.out, Nat.pow_succ, Nat.mul_comm])
      have wb : IntKind.i64.wrap (3 * (b : Int)) = 3 * (b : Int) := IntWalk.i64_in _ (by omega)
      go_wp2
      go_roundw
      case rel => exact ⟨k + 1, 3 * b, by omega, by go_num, by go_num, Hb2.out, by omega, Hd.out⟩
      case measure => simp [intOf]; omega
    · obtain rfl : k = n := by omega
      go_wp2
      go_ret
      exact ⟨ret_int (by rw [Hb.out, HR.out]), Hd.out⟩

set_option maxHeartbeats 1000000 in
theorem l15Ending_c (n x : Nat) (w : World) (hn : n ≤ 4) (hx : x < 1048576) : Calls Try.prog 52 #[.int .i64 n, .int .i64 x] w (GivesI 3 w (digits n x)) := by
  generalize hR : digits n x = R
  have HR := Lib.hid hR
  clear hR
  go_enter Try.func52, Try.ntmps52
  go_wp2_with (refine wpList_mk w rfl (.tmp 7) (.tmp 7) 22 rfl 3 (.int .i64 0) 8 Try.underlying22 info_int rfl n ?_ ?_ ?_ ?_ ?_; rfl; rfl; decide; omega; intro w0 homade hb0 hz0)
  have ho0 : Own 3 w.heap.size w0.heap.size w0 (some ⟨w.heap.size, 0, none⟩) n ((List.replicate n (0 : Int) ++ []).map (.int .i64)) := by simpa using homade
  have hS0 : digits n x ++ [] = R := by rw [List.append_nil]; exact HR.out
  clear homade
  have Ho0 := Lib.hid ho0
  have Hb0 := Lib.hid hb0
  have HS0 := Lib.hid hS0
  clear ho0 hb0 hS0
  go_wp2
  go_loopw [6, 1] (fun i m wr => ∃ (k y : Nat) (j : Int) (t : List Int), k ≤ n ∧ j = (k : Int) - 1 ∧ i = .int .i64 j ∧ m = .int .i64 y ∧ y < 1048576 ∧ k + t.length = n ∧ digits k y ++ t = R ∧ Own 3 w.heap.size w0.heap.size wr (some ⟨w.heap.size, 0, none⟩) n ((List.replicate k (0 : Int) ++ t).map (.int .i64)) ∧ Below w.heap.size w wr ∧ w0.heap.size ≤ wr.heap.size) (fun i _ _ => (intOf i + 1).toNat)
  case atStart => exact ⟨n, x, (n : Int) - 1, [], Nat.le_refl _, rfl, by go_num, rfl, hx, rfl, HS0.out, Ho0.out, Hb0.out, Nat.le_refl _⟩
  case round =>
    obtain ⟨k, y, j, t, hk, hj, rfl, rfl, hy, hkt, hS, ho, hd, hz⟩ := hrel
    have HS := Lib.hid hS
    have Ho := Lib.hid ho
    have Hd := Lib.hid hd
    have Hkt := Lib.hid hkt
    clear hS ho hd hkt
    cases k with
    | zero =>
      obtain rfl : j = -1 := by omega
      clear hj
      have hS2 : t = R := by have := HS.out; simpa [digits] using this
      have ho2 : Own 3 w.heap.size w0.heap.size wr (some ⟨w.heap.size, 0, none⟩) n (t.map (.int .i64)) := by have := Ho.out; simpa using this
      have hl : t.length = n := by have := Hkt.out; omega
      have HS2 := Lib.hid hS2
      have Ho2 := Lib.hid ho2
      have Hl := Lib.hid hl
      clear hS2 ho2 hl
      go_wp2
      go_ret
      rw [← HS2.out]
      exact ⟨some ⟨w.heap.size, 0, none⟩, n, by rw [Hl.out]; rfl, Ho2.out.wide (Nat.le_refl _) hz, Hd.out⟩
    | succ k =>
      obtain rfl : j = (k : Int) := by omega
      clear hj
      have e1 : (y : Int).tmod 3 = ((y % 3 : Nat) : Int) := by rw [Int.tmod_eq_emod_of_nonneg (by omega)]; omega
      have e2 : (y : Int).tdiv 3 = ((y / 3 : Nat) : Int) := by rw [Int.tdiv_eq_ediv_of_nonneg (by omega)]; omega
      obtain ⟨r, hr⟩ : ∃ r, y % 3 = r := ⟨_, rfl⟩
      obtain ⟨q, hq⟩ : ∃ q, y / 3 = q := ⟨_, rfl⟩
      have hr3 : r < 3 := by omega
      have hq1 : q < 1048576 := by omega
      rw [hr] at e1
      rw [hq] at e2
      have HS2 : Hid (digits k q ++ ((r : Int) :: t) = R) := Lib.hid (by have := HS.out; rw [digits, hr, hq] at this; simpa using this)
      have hget : (List.replicate (k + 1) (0 : Int) ++ t)[k]? = some 0 := by
        rw [List.getElem?_append_left (by simp)]; simp
      obtain ⟨g1, eg, _, _, k1, k2⟩ := ownr Ho.out hget
      obtain rfl : w.heap.size = g1 := by injection eg with eg; injection eg
      have Ho2 : Hid (Own 3 w.heap.size w0.heap.size (wr.setCell ⟨w.heap.size, k, none⟩ (.int .i64 (r : Int))) (some ⟨w.heap.size, 0, none⟩) n ((List.replicate k (0 : Int) ++ ((r : Int) :: t)).map (.int .i64))) := Lib.hid (by
        have := Ho.out.seti k (r : Int)
        rwa [show (List.replicate (k + 1) (0 : Int) ++ t).set k (r : Int) = List.replicate k (0 : Int) ++ ((r : Int) :: t) from by
          rw [List.replicate_succ', List.append_assoc, List.set_append_right _ _ (by simp)]; simp] at this)
      have Hd2 := Lib.hid (Hd.out.setCell (p := ⟨w.heap.size, k, none⟩) (Nat.le_refl _) (.int .i64 (r : Int)))
      have hz2 : w0.heap.size ≤ (wr.setCell ⟨w.heap.size, k, none⟩ (.int .i64 (r : Int))).heap.size := by rw [setCell_size]; exact hz
      have Hkt2 : Hid (k + ((r : Int) :: t).length = n) := Lib.hid (by have := Hkt.out; simp only [List.length_cons]; omega)
      have hkn : (k : Int) < (n : Int) := by omega
      have hk2 : k < n := by omega
      have Hr := Lib.hid hr
      have Hq := Lib.hid hq
      have Hget := Lib.hid hget
      clear hr hq hget
      clear eg
      go_wp2
      go_roundw
      case rel => exact ⟨k, q, (k : Int) - 1, (r : Int) :: t, by omega, rfl, by go_num, by go_num, hq1, Hkt2.out, HS2.out, Ho2.out, Hd2.out, hz2⟩
      case measure => (simp [intOf]; try omega)

def f3 (e : List Int) : List (List Int) := [e ++ [0], e ++ [1], e ++ [2]]
def flat3 (l : List (List Int)) : List (List Int) := l.flatMap f3
theorem flat3_end (n : Nat) : flat3 (endF n) = endF (n + 1) := rfl
theorem flat3_take {l : List (List Int)} {k : Nat} {e : List Int} (h : l[k]? = some e) : flat3 (l.take (k + 1)) = flat3 (l.take k) ++ f3 e := by
  rw [flat3, take_of h, List.flatMap_append]; simp [flat3]
theorem flat3_len (l : List (List Int)) : (flat3 l).length = 3 * l.length := by
  induction l with
  | nil => rfl
  | cons a l ih =>
    have : flat3 (a :: l) = f3 a ++ flat3 l := by simp [flat3]
    rw [this, List.length_append, ih]; simp [f3]; omega
theorem f3_at (e : List Int) (r : Nat) (h : r < 3) : (f3 e)[r]? = some (e ++ [(r : Int)]) := by
  match r, h with
  | 0, _ => rfl
  | 1, _ => rfl
  | 2, _ => rfl

set_option maxHeartbeats 2000000 in
theorem endingsOf_c (B : Option Addr) (G d : Nat) (w : World) (hG : G ≤ 4) : Calls Try.prog 49 #[.slice B G d] w (GivesII 3 22 w (endF G)) := by
  go_enter Try.func49, Try.ntmps49
  go_wp2
  go_loopw [11, 3] (fun i o wr => ∃ (k : Nat) (A : Option Addr) (c : Nat), k ≤ G ∧ i = .int .i64 k ∧ o = .slice A (endF k).length c ∧ Own2 3 22 w.heap.size wr.heap.size wr A c (endF k) ∧ Below w.heap.size w wr) (fun i _ _ => G - (intOf i).toNat)
  case atStart =>
    refine ⟨0, some ⟨w.heap.size, 0, none⟩, 1, Nat.zero_le _, rfl, rfl, ⟨[(none, 0)], ⟨by simp [endF], by unfold maxLen; omega, .inr ⟨w.heap.size, #[.slice none 0 0], rfl, Nat.le_refl _, by simp, heap_alloc_new w _, rfl, rfl⟩⟩, ⟨rfl, fun k h xs h1 h2 => ?_, fun i j h h' a a' h1 h2 h3 h4 h5 => ?_⟩⟩, (Below.refl _ _).alloc (Nat.le_refl _) _⟩
    · match k, h1, h2 with
      | 0, h1, h2 => simp [endF] at h1 h2; subst h1; subst h2; exact Own.nil ..
    · match i, h1 with
      | 0, h1 => simp at h1; subst h1; cases h3
  case round =>
    obtain ⟨k, A, c, hk, rfl, rfl, ho, hd⟩ := hrel
    have Ho := Lib.hid ho
    have Hd := Lib.hid hd
    clear ho hd
    by_cases hlt : k < G
    · obtain ⟨N, hN⟩ : ∃ N, (endF k).length = N := ⟨_, rfl⟩
      have hN27 : N ≤ 27 := by rw [← hN, endF_length]; exact Nat.le_trans (Nat.pow_le_pow_right (by decide) (by omega : k ≤ 3)) (by decide)
      rw [hN]
      have HN := Lib.hid hN
      clear hN
      go_wp2
      obtain ⟨wo, hwo⟩ : ∃ wo : World, wo = wr := ⟨_, rfl⟩
      rw [← hwo] at Ho Hd ⊢
      clear hwo wr
      have Hrows := Lib.hid Ho.out.rows
      go_loopw [15, 4] (fun i o wr => ∃ (j : Nat) (A' : Option Addr) (c' : Nat), j ≤ N ∧ i = .int .i64 j ∧ o = .slice A' (3 * j) c' ∧ Own2 3 22 wo.heap.size wr.heap.size wr A' c' (flat3 ((endF k).take j)) ∧ Below wo.heap.size wo wr) (fun i _ _ => N - (intOf i).toNat)
      case atStart => exact ⟨0, none, 0, Nat.zero_le _, rfl, rfl, Own2.nil .., Below.refl _ _⟩
      case round =>
        obtain ⟨j, A', c', hj, rfl, rfl, ho2, hd2⟩ := hrel
        have Ho2 := Lib.hid ho2
        have Hd2 := Lib.hid hd2
        clear ho2 hd2
        by_cases hlt2 : j < N
        · obtain ⟨e, he⟩ := some_of (l := endF k) (k := j) (by rw [HN.out]; exact hlt2)
          obtain ⟨bd, ea, ec, rfl, _, _, hcaw, hiaw⟩ := Hrows.out j e he
          have hca := keep_of_below Hd2.out _ _ hcaw
          have hia := hiaw.keep (keep_of_below Hd2.out)
          have Hiw := Lib.hid hiaw
          clear hcaw hiaw
          have hek := (endF_row k e (List.mem_of_getElem? he)).1
          have hlt3 : ((endF k).take j).length = j := by rw [List.length_take, HN.out]; omega
          have hfl : (flat3 ((endF k).take j)).length = 3 * j := by rw [flat3_len, hlt3]
          have hft := flat3_take he
          rw [hek] at hca
          have He := Lib.hid he
          have Hft := Lib.hid hft
          have Hfl := Lib.hid hfl
          have Hlt3 := Lib.hid hlt3
          have Hia := Lib.hid hia
          clear he hft hfl hlt3 hia
          go_wp2
          obtain ⟨wp, hwp⟩ : ∃ wp : World, wp = wr := ⟨_, rfl⟩
          rw [← hwp] at Ho2 Hd2 Hia ⊢
          clear hwp hca wr
          go_loopw [19, 4] (fun i o wr => ∃ (r : Nat) (A' : Option Addr) (c' : Nat), r ≤ 3 ∧ i = .int .i64 r ∧ o = .slice A' (3 * j + r) c' ∧ Own2 3 22 wo.heap.size wr.heap.size wr A' c' (flat3 ((endF k).take j) ++ (f3 e).take r) ∧ Below wo.heap.size wo wr ∧ Ints wr ea e) (fun i _ _ => 3 - (intOf i).toNat)
          case atStart => exact ⟨0, A', c', Nat.zero_le _, rfl, rfl, by simpa using Ho2.out, Hd2.out, Hia.out⟩
          case round =>
            clear Ho2 Hd2 Hia
            obtain ⟨r, A', c', hr, rfl, rfl, ho3, hd3, hi3⟩ := hrel
            have Ho3 := Lib.hid ho3
            have Hd3 := Lib.hid hd3
            have Hi3 := Lib.hid hi3
            clear ho3 hd3 hi3
            by_cases hlt4 : r < 3
            · have hf := f3_at e r hlt4
              have hl3 : (flat3 ((endF k).take j) ++ (f3 e).take r).length = 3 * j + r := by rw [List.length_append, Hfl.out, List.length_take]; simp [f3]; omega
              have hcl := clone_c ea ec e wr Hi3.out (by omega)
              rw [hek] at hcl
              have Hf := Lib.hid hf
              have Hl3 := Lib.hid hl3
              have Hcl := Lib.hid hcl
              clear hf hl3 hcl
              go_wp2_with fail
              refine Hcl.out.mono ?_
              rintro e' w1 ⟨A1, c1, e1, ho1, hb1⟩
              rw [hek] at e1
              subst e1
              have hlm : k = (e.map (Value.int .i64)).length := by rw [List.length_map, hek]
              have hz1 : wr.heap.size ≤ w1.heap.size := hb1.size
              have Ho1 := Lib.hid ho1
              have Hb1 := Lib.hid hb1
              have Hlm := Lib.hid hlm
              clear ho1 hb1 hlm
              have hlr : k + 1 = (e ++ [(r : Int)]).length := by rw [List.length_append, hek]; rfl
              have hmap : e.map (Value.int .i64) ++ [.int .i64 (r : Int)] = (e ++ [(r : Int)]).map (Value.int .i64) := by simp
              have Hlr := Lib.hid hlr
              have Hmap := Lib.hid hmap
              clear hlr hmap
              go_wp2_with (first
                | (at_builtin; refine wpList_app1 rfl (.tmp 24) (.tmp 26) 22 rfl 3 (.int .i64 0) 8 Try.underlying22 info_int rfl wr.heap.size A1 c1 (e.map (.int .i64)) ?_ ?_ (.int .i64 r) rfl ?_ ?_ k ?_ ?_ ?_ ?_; exact Ho1.out; exact hz1; (rw [← Hlm.out]; omega); decide; exact Hlm.out; rfl; rfl; intro A2 c2 w2 ho2 hb2 _ hz2; rw [Hmap.out] at ho2; have Ho2 := Lib.hid ho2; have Hb2 := Lib.hid hb2; clear ho2 hb2)
                | (at_builtin; refine wpList_app2 rfl (.tmp 22) (.tmp 28) 23 rfl 3 22 Try.underlying23 info_ints info_rows_ne wo.heap.size wr.heap.size A' c' (flat3 ((endF k).take j) ++ (f3 e).take r) A2 c2 (e ++ [(r : Int)]) ?_ ?_ ?_ ?_ ?_ (3 * j + r) (k + 1) ?_ ?_ ?_ ?_ ?_; exact (Ho3.out.below Hb1.out).below Hb2.out; exact Ho2.out; exact Hd3.out.size; omega; (rw [Hl3.out]; omega); exact Hl3.out.symm; exact Hlr.out; rfl; rfl; intro A3 c3 w3 ho4 hb4 hz4))
              have hw2 : Below wo.heap.size wr w2 := ((Hb1.out.trans Hb2.out).mono Hd3.out.size)
              have hw3 : Below wo.heap.size wo w3 := Hd3.out.trans (hw2.trans hb4)
              have hi4 : Ints w3 ea e := Hiw.out.keep (keep_of_below hw3)
              have hx4 : flat3 ((endF k).take j) ++ (f3 e).take (r + 1) = flat3 ((endF k).take j) ++ (f3 e).take r ++ [e ++ [(r : Int)]] := by rw [take_of Hf.out, List.append_assoc]
              rw [← hx4] at ho4
              have Ho4 := Lib.hid ho4
              have Hw3 := Lib.hid hw3
              have Hi4 := Lib.hid hi4
              clear ho4 hw3 hi4
              clear hw2 hb4 hx4
              go_wp2
              go_roundw
              case rel => exact ⟨r + 1, A3, c3, by omega, by go_num, by go_num, Ho4.out, Hw3.out, Hi4.out⟩
              case measure => simp [intOf]; omega
            · obtain rfl : r = 3 := by omega
              have ho4 := Ho3.out
              rw [show (f3 e).take 3 = f3 e from rfl, ← Hft.out] at ho4
              have Ho4 := Lib.hid ho4
              clear ho4
              go_wp2
              go_roundw
              case rel => exact ⟨j + 1, A', c', by omega, by go_num, by go_num, Ho4.out, Hd3.out⟩
              case measure => simp [intOf]; omega
        · obtain rfl : j = N := by omega
          have ho4 := Ho2.out
          rw [← HN.out, List.take_length, flat3_end] at ho4
          have hlen1 : 3 * j = (endF (k + 1)).length := by rw [endF_length, Nat.pow_succ, ← endF_length k, HN.out, Nat.mul_comm]
          have ho5 := ho4.wide Hd.out.size (Nat.le_refl _)
          have hd5 := Hd.out.trans (Hd2.out.mono Hd.out.size)
          have Hlen1 := Lib.hid hlen1
          have Ho5 := Lib.hid ho5
          have Hd5 := Lib.hid hd5
          clear hlen1 ho5 hd5
          clear ho4
          go_wp2
          go_roundw
          case rel => exact ⟨k + 1, A', c', by omega, by go_num, by rw [Hlen1.out], Ho5.out, Hd5.out⟩
          case measure => simp [intOf]; omega
    · obtain rfl : k = G := by omega
      go_wp2
      go_ret
      exact ⟨A, c, rfl, Ho.out, Hd.out⟩

def ofDay (points : List Int) (games : List (List Int)) (k : Int) : Bool := dayOk points games && inR k 0 ((points.length : Int) - 1)
theorem ofDay_day {points : List Int} {games : List (List Int)} {k : Int} (h : ofDay points games k = true) : dayOk points games = true ∧ ∃ c : Nat, k = (c : Int) ∧ c < points.length := by
  simp only [ofDay, Bool.and_eq_true] at h
  have := inR_true h.2
  exact ⟨h.1, k.toNat, by omega, by omega⟩
theorem sDayOkG_c (A B : Option Addr) (c d : Nat) (points : List Int) (games : List (List Int)) (w : World) (ha : Ints w A points) (hb : Rows w B games) (hm : points.length ≤ 1048576) :
    Calls Try.prog 14 #[.slice A points.length c, .slice B games.length d] w (Gives w (.bool (dayOk points games))) :=
  (sDayOk_c A B c d points games w ha hb hm).mono fun _ _ h => h.gives
set_option maxHeartbeats 1000000 in
theorem isOfDay_c (A B : Option Addr) (c d : Nat) (points : List Int) (games : List (List Int)) (k : Int) (w : World) (ha : Ints w A points) (hb : Rows w B games) (hm : points.length ≤ 1048576) :
    Calls Try.prog 53 #[.slice A points.length c, .slice B games.length d, .int .i64 k] w (Gives w (.bool (ofDay points games k))) := by
  generalize hR : ofDay points games k = R
  have HR := Lib.hid hR
  clear hR
  have wn : IntKind.i64.wrap ((points.length : Int) - 1) = (points.length : Int) - 1 := IntWalk.i64_in _ (by omega)
  have Ha := Lib.hid ha
  have Hb := Lib.hid hb
  clear ha hb
  cases h1 : dayOk points games
  · have H1 := Lib.hid h1
    clear h1
    go_enter Try.func53, Try.ntmps53
    go_wp2_with fail
    refine (gives_v (iDayOk_c _ _ _ _ _ _ _ Ha.out Hb.out hm) (congrArg Value.bool H1.out)).mono ?_
    rintro e w1 ⟨rfl, hb1⟩
    go_wp2
    go_ret
    exact ⟨ret_bool (by rw [← HR.out]; simp [ofDay, H1.out]), hb1⟩
  · cases h2 : inR k 0 ((points.length : Int) - 1)
    · have H1 := Lib.hid h1
      have H2 := Lib.hid h2
      clear h1 h2
      go_enter Try.func53, Try.ntmps53
      go_wp2_with fail
      refine (gives_v (iDayOk_c _ _ _ _ _ _ _ Ha.out Hb.out hm) (congrArg Value.bool H1.out)).mono ?_
      rintro e w1 ⟨rfl, hb1⟩
      have Hb1 := Lib.hid hb1
      clear hb1
      go_wp2_with fail
      refine (calls_v (within_c _ _ _ _) (congrArg Value.bool H2.out)).mono ?_
      rintro e w2 ⟨rfl, hq⟩
      go_wp2
      go_ret
      exact ⟨ret_bool (by rw [← HR.out]; simp [ofDay, H1.out, H2.out]), below_dr Hb1.out hq⟩
    · have H1 := Lib.hid h1
      have H2 := Lib.hid h2
      clear h1 h2
      go_enter Try.func53, Try.ntmps53
      go_wp2_with fail
      refine (gives_v (iDayOk_c _ _ _ _ _ _ _ Ha.out Hb.out hm) (congrArg Value.bool H1.out)).mono ?_
      rintro e w1 ⟨rfl, hb1⟩
      have Hb1 := Lib.hid hb1
      clear hb1
      go_wp2_with fail
      refine (calls_v (within_c _ _ _ _) (congrArg Value.bool H2.out)).mono ?_
      rintro e w2 ⟨rfl, hq⟩
      go_wp2
      go_ret
      exact ⟨ret_bool (by rw [← HR.out]; simp [ofDay, H1.out, H2.out]), below_dr Hb1.out hq⟩

set_option maxHeartbeats 1000000 in
theorem l15Ok_c (A B : Option Addr) (c d : Nat) (points : List Int) (games : List (List Int)) (k : Int) (w : World) (ha : Ints w A points) (hb : Rows w B games) (hm : points.length ≤ 1048576) :
    Calls Try.prog 50 #[.slice A points.length c, .slice B games.length d, .int .i64 k] w (Gives w (.bool (ofDay points games k))) := by
  generalize hR : ofDay points games k = R
  have HR := Lib.hid hR
  clear hR
  have wn : IntKind.i64.wrap ((points.length : Int) - 1) = (points.length : Int) - 1 := IntWalk.i64_in _ (by omega)
  have Ha := Lib.hid ha
  have Hb := Lib.hid hb
  clear ha hb
  cases h1 : dayOk points games
  · have H1 := Lib.hid h1
    clear h1
    go_enter Try.func50, Try.ntmps50
    go_wp2_with fail
    refine (gives_v (sDayOkG_c _ _ _ _ _ _ _ Ha.out Hb.out hm) (congrArg Value.bool H1.out)).mono ?_
    rintro e w1 ⟨rfl, hb1⟩
    go_wp2
    go_ret
    exact ⟨ret_bool (by rw [← HR.out]; simp [ofDay, H1.out]), hb1⟩
  · cases h2 : inR k 0 ((points.length : Int) - 1)
    · have H1 := Lib.hid h1
      have H2 := Lib.hid h2
      clear h1 h2
      go_enter Try.func50, Try.ntmps50
      go_wp2_with fail
      refine (gives_v (sDayOkG_c _ _ _ _ _ _ _ Ha.out Hb.out hm) (congrArg Value.bool H1.out)).mono ?_
      rintro e w1 ⟨rfl, hb1⟩
      have Hb1 := Lib.hid hb1
      clear hb1
      go_wp2_with fail
      refine (calls_v (l01In_c _ _ _ _) (congrArg Value.bool H2.out)).mono ?_
      rintro e w2 ⟨rfl, hq⟩
      go_wp2
      go_ret
      exact ⟨ret_bool (by rw [← HR.out]; simp [ofDay, H1.out, H2.out]), below_dr Hb1.out hq⟩
    · have H1 := Lib.hid h1
      have H2 := Lib.hid h2
      clear h1 h2
      go_enter Try.func50, Try.ntmps50
      go_wp2_with fail
      refine (gives_v (sDayOkG_c _ _ _ _ _ _ _ Ha.out Hb.out hm) (congrArg Value.bool H1.out)).mono ?_
      rintro e w1 ⟨rfl, hb1⟩
      have Hb1 := Lib.hid hb1
      clear hb1
      go_wp2_with fail
      refine (calls_v (l01In_c _ _ _ _) (congrArg Value.bool H2.out)).mono ?_
      rintro e w2 ⟨rfl, hq⟩
      go_wp2
      go_ret
      exact ⟨ret_bool (by rw [← HR.out]; simp [ofDay, H1.out, H2.out]), below_dr Hb1.out hq⟩

def countF (points : List Int) (games : List (List Int)) : Int := if dayOk points games = true then ((3 ^ games.length : Nat) : Int) else -1

set_option maxHeartbeats 1000000 in
theorem iCountEndings_c (A B : Option Addr) (c d : Nat) (points : List Int) (games : List (List Int)) (w : World) (ha : Ints w A points) (hb : Rows w B games) (hm : points.length ≤ 1048576) :
    Calls Try.prog 26 #[.slice A points.length c, .slice B games.length d] w (Gives w (.int .i64 (countF points games))) := by
  generalize hR : countF points games = R
  have HR := Lib.hid hR
  clear hR
  have Ha := Lib.hid ha
  have Hb := Lib.hid hb
  clear ha hb
  cases h1 : dayOk points games
  · have H1 := Lib.hid h1
    clear h1
    go_enter Try.func26, Try.ntmps26
    go_wp2_with fail
    refine (gives_v (iDayOk_c _ _ _ _ _ _ _ Ha.out Hb.out hm) (congrArg Value.bool H1.out)).mono ?_
    rintro e w1 ⟨rfl, hb1⟩
    go_wp2
    go_ret
    exact ⟨ret_int (by rw [← HR.out]; simp [countF, H1.out]), hb1⟩
  · have hfew := (day_of h1).1.few
    obtain ⟨N, hN⟩ : ∃ N, (endF games.length).length = N := ⟨_, rfl⟩
    have HS : Hid ((N : Int) = R) := Lib.hid (by rw [← HR.out, countF, if_pos h1, ← hN, endF_length])
    have H1 := Lib.hid h1
    clear h1
    go_enter Try.func26, Try.ntmps26
    go_wp2_with fail
    refine (gives_v (iDayOk_c _ _ _ _ _ _ _ Ha.out Hb.out hm) (congrArg Value.bool H1.out)).mono ?_
    rintro e w1 ⟨rfl, hb1⟩
    have Hb1 := Lib.hid hb1
    clear hb1
    go_wp2_with fail
    refine (endingsOf_c _ _ _ _ hfew).mono ?_
    rintro e w2 ⟨C, cc, rfl, _, hb2⟩
    rw [hN]
    have HN := Lib.hid hN
    clear hN
    go_wp2
    go_ret
    exact ⟨ret_int HS.out, Hb1.out.trans (hb2.mono Hb1.out.size)⟩

set_option maxHeartbeats 1000000 in
theorem sCountEndings_c (A B : Option Addr) (c d : Nat) (points : List Int) (games : List (List Int)) (w : World) (ha : Ints w A points) (hb : Rows w B games) (hm : points.length ≤ 1048576) :
    Calls Try.prog 25 #[.slice A points.length c, .slice B games.length d] w (Quiet w (.int .i64 (countF points games))) := by
  generalize hR : countF points games = R
  have HR := Lib.hid hR
  clear hR
  have Ha := Lib.hid ha
  have Hb := Lib.hid hb
  clear ha hb
  cases h1 : dayOk points games
  · have H1 := Lib.hid h1
    clear h1
    go_enter Try.func25, Try.ntmps25
    go_wp2_with fail
    refine (calls_v (sDayOk_c _ _ _ _ _ _ _ Ha.out Hb.out hm) (congrArg Value.bool H1.out)).mono ?_
    rintro e w1 ⟨rfl, hb1⟩
    go_wp2
    go_ret
    exact ⟨ret_int (by rw [← HR.out]; simp [countF, H1.out]), hb1⟩
  · have hfew := (day_of h1).1.few
    obtain ⟨N, hN⟩ : ∃ N, 3 ^ games.length = N := ⟨_, rfl⟩
    have HS : Hid ((N : Int) = R) := Lib.hid (by rw [← HR.out, countF, if_pos h1, hN])
    have H1 := Lib.hid h1
    clear h1
    go_enter Try.func25, Try.ntmps25
    go_wp2_with fail
    refine (calls_v (sDayOk_c _ _ _ _ _ _ _ Ha.out Hb.out hm) (congrArg Value.bool H1.out)).mono ?_
    rintro e w1 ⟨rfl, hb1⟩
    have Hb1 := Lib.hid hb1
    clear hb1
    go_wp2_with fail
    refine (calls_v (l15Count_c _ _ hfew) (congrArg (fun x : Nat => Value.int .i64 x) hN)).mono ?_
    rintro e w2 ⟨rfl, hq2⟩
    have HN := Lib.hid hN
    clear hN
    go_wp2
    go_ret
    exact ⟨ret_int HS.out, Hb1.out.trans hq2⟩
end Go.Proofs.Yteigcfcabmoghaa
