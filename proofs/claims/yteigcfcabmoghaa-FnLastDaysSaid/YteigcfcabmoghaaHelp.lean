/- Contracts of the laws' own helpers on lists of numbers and on lists of lists: how many cells they hold, copies, equality, marks. -/
import Derived.Test.YteigcfcabmoghaaRows
import Derived.Test.YteigcfcabmoghaaBase
namespace Go.Proofs.Yteigcfcabmoghaa
open Go.RowKit

theorem info_int : (Try.prog.info? 3).map (fun i => (i.zero, i.size, i.bytes)) = some (some (.int .i64 0), 1, 8) := by kernel_rfl
theorem info_ints : (Try.prog.info? 22).map (fun i => (i.zero, i.size, i.bytes)) = some (some (.slice none 0 0), 1, 24) := by kernel_rfl

/-! ### Sizes -/
def szR : List (List Int) → Int → Int
  | [], l => l
  | xs :: r, l => if l - xs.length < 0 then -1 else szR r (l - xs.length)
def szRows (xss : List (List Int)) (l : Int) : Int := if l - xss.length < 0 then -1 else szR xss (l - xss.length)

set_option maxHeartbeats 400000 in
theorem szIntS_c (A : Option Addr) (n c : Nat) (l : Int) (w : World) (hn : n ≤ maxLen) (h0 : 0 ≤ l) (h1 : l ≤ 1048576) :
    Calls Try.prog 41 #[.slice A n c, .int .i64 l] w (Quiet w (.int .i64 (if l - n < 0 then -1 else l - n))) := by
  unfold maxLen at hn
  generalize hR : (if l - (n : Int) < 0 then -1 else l - (n : Int)) = R
  have HR := Lib.hid hR
  clear hR
  by_cases h : l < n
  all_goals
    go_enter Try.func41, Try.ntmps41
    go_wp2
    go_ret
    exact ⟨ret_int (by rw [← HR.out]; split <;> (first | rfl | omega)), Dr.refl _⟩

set_option maxHeartbeats 400000 in
theorem szIntSS_c (A : Option Addr) (c : Nat) (xss : List (List Int)) (l : Int) (w : World) (hr : Rows w A xss) (hn : xss.length ≤ maxLen) (h0 : 0 ≤ l) (h1 : l ≤ 1048576) :
    Calls Try.prog 13 #[.slice A xss.length c, .int .i64 l] w (Quiet w (.int .i64 (szRows xss l))) := by
  unfold maxLen at hn
  generalize hR : szRows xss l = R
  have HR := Lib.hid hR
  have Hr := Lib.hid hr
  clear hR hr
  by_cases h : l < xss.length
  · go_enter Try.func13, Try.ntmps13
    go_wp2
    go_ret
    exact ⟨ret_int (by rw [← HR.out]; unfold szRows; split <;> (first | rfl | omega)), Dr.refl _⟩
  · have h' : ¬ l - (xss.length : Int) < 0 := by omega
    have HR1 : Hid (szR xss (l - xss.length) = R) := Lib.hid (by rw [← HR.out]; unfold szRows; rw [if_neg h'])
    go_enter Try.func13, Try.ntmps13
    go_wp2
    go_loopw [1, 5] (fun m i wr => ∃ (k : Nat) (z : Int), k ≤ xss.length ∧ i = .int .i64 k ∧ m = .int .i64 z ∧ 0 ≤ z ∧ z ≤ 1048576 ∧ szR (xss.drop k) z = R ∧ Dr w wr) (fun _ i _ => xss.length - (intOf i).toNat)
    case atStart => exact ⟨0, l - xss.length, Nat.zero_le _, rfl, rfl, by omega, by omega, HR1.out, Dr.refl _⟩
    case round =>
      obtain ⟨k, z, hk, rfl, rfl, hz0, hz1, hR, hd⟩ := hrel
      have Hd := Lib.hid hd
      clear hd
      by_cases hlt : k < xss.length
      · obtain ⟨xs, hx⟩ := some_of hlt
        obtain ⟨ad, a, c', rfl, hl, hm, hc, hi⟩ := Hr.out.keep Hd.out.keep k xs hx
        have hm' : xs.length ≤ maxLen := Nat.le_trans hl hm
        have Hm := Lib.hid hm'
        rw [drop_of hx] at hR
        have HS := Lib.hid hR
        have Hx := Lib.hid hx
        clear hi hl hm hm' hR hx
        by_cases hs : z - (xs.length : Int) < 0
        · go_wp2_with (go_at_call 41; refine (szIntS_c _ _ _ _ _ Hm.out hz0 hz1).mono ?_; rw [if_pos hs]; rintro e w' ⟨rfl, hq⟩)
          go_ret
          exact ⟨ret_int (by rw [← HS.out, szR, if_pos hs]), Hd.out.trans hq⟩
        · go_wp2_with (go_at_call 41; refine (szIntS_c _ _ _ _ _ Hm.out hz0 hz1).mono ?_; rw [if_neg hs]; rintro e w' ⟨rfl, hq⟩)
          go_roundw
          case rel => exact ⟨k + 1, _, by omega, by go_num, rfl, by omega, by omega, by have := HS.out; rwa [szR, if_neg (by omega)] at this, Hd.out.trans hq⟩
          case measure => simp [intOf]; omega
      · have hk' : xss.length ≤ k := by omega
        have HS := Lib.hid hR
        clear hR
        go_wp2
        go_ret
        exact ⟨ret_int (by rw [← HS.out, drop_end hk', szR]), Hd.out⟩

/-! ### Equality -/
set_option maxHeartbeats 400000 in
theorem eqIntS_c (A B : Option Addr) (c d : Nat) (xs ys : List Int) (w : World) (ha : Ints w A xs) (hb : Ints w B ys) (hm : xs.length ≤ maxLen) :
    Calls Try.prog 18 #[.slice A xs.length c, .slice B ys.length d] w (Quiet w (.bool (decide (xs = ys)))) := by
  unfold maxLen at hm
  generalize hR : decide (xs = ys) = R
  have HR := Lib.hid hR
  have Ha := Lib.hid ha
  have Hb := Lib.hid hb
  clear hR ha hb
  by_cases hn : xs.length = ys.length
  · have hne : ((xs.length : Int) != (ys.length : Int)) = false := by rw [hn]; simp
    have Hn := Lib.hid hn
    clear hn
    go_enter Try.func18, Try.ntmps18
    go_wp2
    go_loopw [5] (fun i wr => ∃ k : Nat, k ≤ xs.length ∧ i = .int .i64 k ∧ decide (xs.drop k = ys.drop k) = R ∧ Dr w wr) (fun i _ => xs.length - (intOf i).toNat)
    case atStart => exact ⟨0, Nat.zero_le _, rfl, HR.out, Dr.refl _⟩
    case round =>
      obtain ⟨k, hk, rfl, hS, hd⟩ := hrel
      have Hd := Lib.hid hd
      clear hd
      by_cases hlt : k < xs.length
      · obtain ⟨x, hx⟩ := some_of hlt
        obtain ⟨y, hy⟩ := some_of (l := ys) (k := k) (by have := Hn.out; omega)
        obtain ⟨ad, rfl, hca⟩ := Ha.out.keep Hd.out.keep k x hx
        obtain ⟨bd, rfl, hcb⟩ := Hb.out.keep Hd.out.keep k y hy
        have hlt2 : k < ys.length := lt_of hy
        rw [drop_of hx, drop_of hy] at hS
        have HS := Lib.hid hS
        clear hS hx hy
        by_cases hxy : x = y
        · have hne : (x != y) = false := by simpa using hxy
          have Hxy := Lib.hid hxy
          clear hxy
          go_wp2
          go_quiet (fail)
          go_wp2
          go_roundw
          case rel => exact ⟨k + 1, by omega, by go_num, by rw [← HS.out, Hxy.out]; simp, Hd.out.dN _⟩
          case measure => simp [intOf]; omega
        · have hne : (x != y) = true := by simpa using hxy
          have Hxy := Lib.hid hxy
          clear hxy
          go_wp2
          go_quiet (fail)
          go_wp2
          go_ret
          exact ⟨ret_bool (by rw [← HS.out]; simp [Hxy.out]), Hd.out.dN _⟩
      · have hk' : xs.length ≤ k := by omega
        have HS := Lib.hid hS
        clear hS
        go_wp2
        go_ret
        exact ⟨ret_bool (by rw [← HS.out, drop_end hk', drop_end (by rw [← Hn.out]; exact hk')]; simp), Hd.out⟩
  · have hne : ((xs.length : Int) != (ys.length : Int)) = true := by simp; omega
    have Hn := Lib.hid hn
    clear hn
    go_enter Try.func18, Try.ntmps18
    go_wp2
    go_ret
    exact ⟨ret_bool (by rw [← HR.out, eq_comm, decide_eq_false_iff_not]; exact fun e => Hn.out (by rw [e])), Dr.refl _⟩

set_option maxHeartbeats 400000 in
theorem eqIntSS_c (A B : Option Addr) (c d : Nat) (xss yss : List (List Int)) (w : World) (ha : Rows w A xss) (hb : Rows w B yss) (hm : xss.length ≤ maxLen) :
    Calls Try.prog 19 #[.slice A xss.length c, .slice B yss.length d] w (Quiet w (.bool (decide (xss = yss)))) := by
  unfold maxLen at hm
  generalize hR : decide (xss = yss) = R
  have HR := Lib.hid hR
  have Ha := Lib.hid ha
  have Hb := Lib.hid hb
  clear hR ha hb
  by_cases hn : xss.length = yss.length
  · have hne : ((xss.length : Int) != (yss.length : Int)) = false := by rw [hn]; simp
    have Hn := Lib.hid hn
    clear hn
    go_enter Try.func19, Try.ntmps19
    go_wp2
    go_loopw [5] (fun i wr => ∃ k : Nat, k ≤ xss.length ∧ i = .int .i64 k ∧ decide (xss.drop k = yss.drop k) = R ∧ Dr w wr) (fun i _ => xss.length - (intOf i).toNat)
    case atStart => exact ⟨0, Nat.zero_le _, rfl, HR.out, Dr.refl _⟩
    case round =>
      obtain ⟨k, hk, rfl, hS, hd⟩ := hrel
      have Hd := Lib.hid hd
      clear hd
      by_cases hlt : k < xss.length
      · obtain ⟨x, hx⟩ := some_of hlt
        obtain ⟨y, hy⟩ := some_of (l := yss) (k := k) (by have := Hn.out; omega)
        obtain ⟨ad, a, c1, rfl, hl1, hl2, hca, hia⟩ := Ha.out.keep Hd.out.keep k x hx
        obtain ⟨bd, b, d1, rfl, _, _, hcb, hib⟩ := Hb.out.keep Hd.out.keep k y hy
        have hlt2 : k < yss.length := lt_of hy
        rw [drop_of hx, drop_of hy] at hS
        have HS := Lib.hid hS
        have Hl := Lib.hid (Nat.le_trans hl1 hl2)
        clear hl1 hl2
        have Hia := Lib.hid hia
        have Hib := Lib.hid hib
        clear hS hx hy hia hib
        by_cases hxy : x = y
        · have he : decide (x = y) = true := by simpa using hxy
          have He := Lib.hid he
          have Hxy := Lib.hid hxy
          clear hxy he
          go_wp2
          go_quiet ((go_at_call 18; exact quiet_call (calls_v (eqIntS_c _ _ _ _ _ _ _ (Hia.out.drewN _) (Hib.out.drewN _) Hl.out) (congrArg Value.bool He.out))))
          go_wp2
          go_roundw
          case rel => exact ⟨k + 1, by omega, by go_num, by rw [← HS.out, Hxy.out]; simp, Hd.out.dN _⟩
          case measure => simp [intOf]; omega
        · have he : decide (x = y) = false := by simpa using hxy
          have He := Lib.hid he
          have Hxy := Lib.hid hxy
          clear hxy he
          go_wp2
          go_quiet ((go_at_call 18; exact quiet_call (calls_v (eqIntS_c _ _ _ _ _ _ _ (Hia.out.drewN _) (Hib.out.drewN _) Hl.out) (congrArg Value.bool He.out))))
          go_wp2
          go_ret
          exact ⟨ret_bool (by rw [← HS.out]; simp [Hxy.out]), Hd.out.dN _⟩
      · have hk' : xss.length ≤ k := by omega
        have HS := Lib.hid hS
        clear hS
        go_wp2
        go_ret
        exact ⟨ret_bool (by rw [← HS.out, drop_end hk', drop_end (by rw [← Hn.out]; exact hk')]; simp), Hd.out⟩
  · have hne : ((xss.length : Int) != (yss.length : Int)) = true := by simp; omega
    have Hn := Lib.hid hn
    clear hn
    go_enter Try.func19, Try.ntmps19
    go_wp2
    go_ret
    exact ⟨ret_bool (by rw [← HR.out, eq_comm, decide_eq_false_iff_not]; exact fun e => Hn.out (by rw [e])), Dr.refl _⟩

/-! ### Copies -/
theorem arr_map (xs : List Int) : (xs.map (Value.int .i64)).length = xs.length := by simp

/-- What 'make' lays is a row of the call's own. -/
theorem own_made (T : TypeId) (lo : Nat) (w : World) (z : Value) (n : Nat) (hlo : lo ≤ w.heap.size) (hm : n ≤ maxLen) :
    Own T lo (w.heap.size + 1) (w.alloc (.cells (madeCells #[z] n) T)) (some ⟨w.heap.size, 0, none⟩) n (List.replicate n z) := by
  refine ⟨by simp, hm, .inr ⟨w.heap.size, _, rfl, hlo, Nat.lt_succ_self _, heap_alloc_new w _, size_madeCells _ _, ?_⟩⟩
  rw [toList_madeCells_one]; simp

set_option maxHeartbeats 400000 in
theorem toIntS_c (A : Option Addr) (c : Nat) (xs : List Int) (w : World) (ha : Ints w A xs) (hm : xs.length ≤ 1048576) :
    Calls Try.prog 15 #[.slice A xs.length c] w (GivesI 3 w xs) := by
  have hmk := fun W => run_make_row' (P := Try.prog) 22 3 (.int .i64 0) 8 Try.underlying22 info_int rfl .i64 .i64 xs.length (by omega) (by omega) W
  have hm' : xs.length ≤ maxLen := by unfold maxLen; omega
  have Ha := Lib.hid ha
  have Hm := Lib.hid hm'
  clear ha hm'
  go_enter Try.func15, Try.ntmps15
  go_wp2
  go_loopw [4] (fun i wr => ∃ k : Nat, k ≤ xs.length ∧ i = .int .i64 k ∧ Own 3 w.heap.size (w.heap.size + 1) wr (some ⟨w.heap.size, 0, none⟩) xs.length ((xs.map (Value.int .i64)).take k ++ (List.replicate xs.length (.int .i64 0)).drop k) ∧ Below w.heap.size w wr ∧ w.heap.size < wr.heap.size) (fun i _ => xs.length - (intOf i).toNat)
  case atStart => exact ⟨0, Nat.zero_le _, rfl, own_made _ _ _ _ _ (Nat.le_refl _) Hm.out, (Below.refl _ _).alloc (Nat.le_refl _) _, by simp⟩
  case round =>
    obtain ⟨k, hk, rfl, hown, hb, hz⟩ := hrel
    have Hown := Lib.hid hown
    have Hb := Lib.hid hb
    clear hown hb
    by_cases hlt : k < xs.length
    · obtain ⟨x, hx⟩ := some_of hlt
      obtain ⟨ad, rfl, hca⟩ := Ha.out.keep (keep_of_below Hb.out) k x hx
      obtain ⟨g, hg, _, _, hcb, hfb⟩ := Hown.out.at_ (k := k) (u := .int .i64 0) (by rw [fill_at (by simp; omega)]; simp [hlt])
      obtain rfl : w.heap.size = g := by injection hg with hg; injection hg
      have Hx := Lib.hid hx
      clear hx hg
      go_wp2
      go_roundw
      case rel => exact ⟨k + 1, by omega, by go_num, by rw [← fill_step (map_some Hx.out) (by simpa using hlt)]; exact Hown.out.set_ k _, Hb.out.setCell (Nat.le_refl _) _, by simpa [World.setCell] using hz⟩
      case measure => simp [intOf]; omega
    · obtain rfl : k = xs.length := by omega
      go_wp2
      go_ret
      refine ⟨_, _, rfl, ?_, Hb.out⟩
      have := Hown.out
      rw [List.take_of_length_le (by simp), List.drop_eq_nil_of_le (by simp), List.append_nil] at this
      exact this.wide (Nat.le_refl _) hz

theorem replicate_drop_at {n k : Nat} {z : Value} (h : k < n) : (List.replicate n z)[k]? = some z := by simp [h]

/-- The outer row while it is filled: 'k' headers, then zero values. -/
theorem outer_step {hs : List (Option Addr × Nat)} {xss : List (List Int)} {k n : Nat} {a : Option Addr} {c' : Nat} {xs : List Int} {z : Value} (hl : hs.length = k) (hx : xss[k]? = some xs) (hn : k < n) :
    (List.zipWith hdr hs (xss.take k) ++ List.replicate (n - k) z).set k (.slice a xs.length c') = List.zipWith hdr (hs ++ [(a, c')]) (xss.take (k + 1)) ++ List.replicate (n - (k + 1)) z := by
  have hk := lt_of hx
  have hz : (List.zipWith hdr hs (xss.take k)).length = k := by simp [hl]; omega
  rw [List.set_append_right _ _ (by omega), hz, take_of hx, List.zipWith_append (by simp [hl]; omega)]
  have e : n - k = (n - (k + 1)) + 1 := by omega
  rw [e, List.replicate_succ, Nat.sub_self, List.set_cons_zero, List.append_assoc]
  rfl
theorem outer_at {hs : List (Option Addr × Nat)} {xss : List (List Int)} {k n : Nat} {z : Value} (hl : hs.length = k) (hx : k < xss.length) (hn : k < n) :
    (List.zipWith hdr hs (xss.take k) ++ List.replicate (n - k) z)[k]? = some z := by
  have hz : (List.zipWith hdr hs (xss.take k)).length = k := by simp [hl]; omega
  rw [List.getElem?_append_right (by omega), hz, Nat.sub_self]
  have e : n - k = (n - (k + 1)) + 1 := by omega
  rw [e, List.replicate_succ]; rfl

set_option maxHeartbeats 400000 in
theorem toIntSS_c (A : Option Addr) (c : Nat) (xss : List (List Int)) (w : World) (ha : Rows w A xss) (hm : xss.length ≤ 1048576) (hm2 : ∀ xs ∈ xss, xs.length ≤ 1048576) :
    Calls Try.prog 16 #[.slice A xss.length c] w (GivesII 3 22 w xss) := by
  have hmk := fun W => run_make_row' (P := Try.prog) 23 22 (.slice none 0 0) 24 Try.underlying23 info_ints rfl .i64 .i64 xss.length (by omega) (by omega) W
  have hm' : xss.length ≤ maxLen := by unfold maxLen; omega
  have Ha := Lib.hid ha
  have Hm := Lib.hid hm'
  have Hm2 := Lib.hid hm2
  clear ha hm' hm2
  go_enter Try.func16, Try.ntmps16
  go_wp2
  go_loopw [4] (fun i wr => ∃ (k : Nat) (hs : List (Option Addr × Nat)), k ≤ xss.length ∧ i = .int .i64 k ∧ hs.length = k ∧ Own 22 w.heap.size (w.heap.size + 1) wr (some ⟨w.heap.size, 0, none⟩) xss.length (List.zipWith hdr hs (xss.take k) ++ List.replicate (xss.length - k) (.slice none 0 0)) ∧ Inner 3 (w.heap.size + 1) wr.heap.size wr hs (xss.take k) ∧ Below w.heap.size w wr ∧ w.heap.size < wr.heap.size) (fun i _ => xss.length - (intOf i).toNat)
  case atStart => exact ⟨0, [], Nat.zero_le _, rfl, rfl, by simpa using own_made 22 w.heap.size w (.slice none 0 0) xss.length (Nat.le_refl _) Hm.out, Inner.nil .., (Below.refl _ _).alloc (Nat.le_refl _) _, by simp⟩
  case round =>
    obtain ⟨k, hs, hk, rfl, hl, hown, hin, hb, hz⟩ := hrel
    have Hown := Lib.hid hown
    have Hb := Lib.hid hb
    have Hin := Lib.hid hin
    have Hl := Lib.hid hl
    clear hown hb hin hl
    by_cases hlt : k < xss.length
    · obtain ⟨xs, hx⟩ := some_of hlt
      obtain ⟨ad, a, c', rfl, hl1, hl2, hca, hia⟩ := Ha.out.keep (keep_of_below Hb.out) k xs hx
      obtain ⟨g, hg, _, _, hcb, hfb⟩ := Hown.out.at_ (outer_at Hl.out hlt hlt)
      obtain rfl : w.heap.size = g := by injection hg with hg; injection hg
      have hmx : xs.length ≤ 1048576 := Hm2.out xs (List.mem_of_getElem? hx)
      have Hx := Lib.hid hx
      have Hia := Lib.hid hia
      clear hx hg hl1 hl2 hia
      go_wp2_with fail
      refine (toIntS_c _ _ _ _ Hia.out hmx).mono ?_
      rintro e w1 ⟨A1, c1, rfl, ho1, hb1⟩
      have hcb1 : w1.cell? ⟨w.heap.size, k, none⟩ = some (.slice none 0 0) := (hb1.cell (p := ⟨w.heap.size, k, none⟩) hz).trans hcb
      have hfb1 : w1.frozen? ⟨w.heap.size, k, none⟩ = false := (hb1.frozen (p := ⟨w.heap.size, k, none⟩) hz).trans hfb
      have Ho1 := Lib.hid ho1
      have Hb1 := Lib.hid hb1
      clear ho1 hb1 hcb hfb
      go_wp2
      go_roundw
      case rel =>
        have hO := (Hown.out.below (w' := w1) (Hb1.out.mono hz)).set_ k (.slice A1 xs.length c1)
        rw [outer_step Hl.out Hx.out hlt] at hO
        have hI := (Hin.out.below Hb1.out).snoc Ho1.out (by omega) Hb1.out.size
        rw [← take_of Hx.out] at hI
        have hI2 : Inner 3 (w.heap.size + 1) (w1.setCell ⟨w.heap.size, k, none⟩ (.slice A1 xs.length c1)).heap.size (w1.setCell ⟨w.heap.size, k, none⟩ (.slice A1 xs.length c1)) (hs ++ [(A1, c1)]) (xss.take (k + 1)) :=
          (hI.stay fun g h1 h2 => Below.heap_setCell w1 ⟨w.heap.size, k, none⟩ _ g (by show g ≠ w.heap.size; omega)).wide (Nat.le_refl _) (by simp [World.setCell])
        exact ⟨k + 1, hs ++ [(A1, c1)], by omega, by go_num, by simp [Hl.out], hO, hI2, (Hb.out.trans (Hb1.out.mono (by omega))).setCell (Nat.le_refl _) _, by have := Hb1.out.size; simp [World.setCell]; omega⟩
      case measure => simp [intOf]; omega
    · obtain rfl : k = xss.length := by omega
      go_wp2
      go_ret
      have hO := Hown.out
      rw [Nat.sub_self, List.replicate_zero, List.append_nil, List.take_length] at hO
      have hI := Hin.out
      rw [List.take_length] at hI
      exact ⟨_, _, rfl, ⟨hs, hO.wide (Nat.le_refl _) hz, hI.wide (by omega) (Nat.le_refl _)⟩, Hb.out⟩

/-! ### Marks: consecutive numbers written into every cell, and asked for again -/
def upFrom : Int → Nat → List Int
  | _, 0 => []
  | k, n + 1 => k :: upFrom (k + 1) n
theorem upFrom_length : ∀ (n : Nat) (k : Int), (upFrom k n).length = n
  | 0, _ => rfl
  | n + 1, k => by simp [upFrom, upFrom_length n]
theorem upFrom_at : ∀ (n : Nat) (k : Int) (j : Nat), j < n → (upFrom k n)[j]? = some (k + j)
  | 0, _, _, h => by omega
  | n + 1, k, 0, _ => by simp [upFrom]
  | n + 1, k, j + 1, h => by
    rw [upFrom, List.getElem?_cons_succ, upFrom_at n (k + 1) j (by omega)]
    congr 1; omega
def total : List (List Int) → Nat
  | [] => 0
  | xs :: r => xs.length + total r
def markRows : Int → List (List Int) → List (List Int)
  | _, [] => []
  | k, xs :: r => upFrom k xs.length :: markRows (k + xs.length) r
theorem markRows_length : ∀ (xss : List (List Int)) (k : Int), (markRows k xss).length = xss.length
  | [], _ => rfl
  | xs :: r, k => by simp [markRows, markRows_length r]
theorem total_mark : ∀ (xss : List (List Int)) (k : Int), total (markRows k xss) = total xss
  | [], _ => rfl
  | xs :: r, k => by simp [markRows, total, total_mark r, upFrom_length]
theorem mark_mark : ∀ (xss : List (List Int)) (k j : Int), markRows k (markRows j xss) = markRows k xss
  | [], _, _ => rfl
  | xs :: r, k, j => by simp [markRows, mark_mark r, upFrom_length]

set_option maxHeartbeats 400000 in
theorem markIntS_c (lo hi : Nat) (A : Option Addr) (c : Nat) (xs : List Int) (k0 : Int) (w : World) (ha : Own 3 lo hi w A c (xs.map (.int .i64))) (hm : xs.length ≤ 16777216) (h0 : 0 ≤ k0) (h1 : k0 ≤ 16777216) :
    Calls Try.prog 22 #[.slice A xs.length c, .int .i64 k0] w fun e w' => e = .returned (.int .i64 (k0 + xs.length)) ∧ Own 3 lo hi w' A c ((upFrom k0 xs.length).map (.int .i64)) ∧ Only lo hi w w' := by
  generalize hR : k0 + (xs.length : Int) = R
  have HR := Lib.hid hR
  have Ha := Lib.hid ha
  clear hR ha
  go_enter Try.func22, Try.ntmps22
  go_wp2
  go_loopw [1, 5] (fun m i wr => ∃ k : Nat, k ≤ xs.length ∧ i = .int .i64 k ∧ m = .int .i64 (k0 + k) ∧ Own 3 lo hi wr A c (((upFrom k0 xs.length).map (Value.int .i64)).take k ++ (xs.map (Value.int .i64)).drop k) ∧ Only lo hi w wr) (fun _ i _ => xs.length - (intOf i).toNat)
  case atStart => exact ⟨0, Nat.zero_le _, rfl, by simp, Ha.out, Only.refl ..⟩
  case round =>
    obtain ⟨k, hk, rfl, rfl, hown, hb⟩ := hrel
    have Hown := Lib.hid hown
    have Hb := Lib.hid hb
    clear hown hb
    by_cases hlt : k < xs.length
    · obtain ⟨x, hx⟩ := some_of hlt
      obtain ⟨g, rfl, hg1, hg2, hcb, hfb⟩ := Hown.out.at_ (k := k) (u := .int .i64 x) (by rw [fill_at (by simp [upFrom_length]; omega)]; exact map_some hx)
      have Hx := Lib.hid hx
      clear hx
      go_wp2
      go_roundw
      case rel => exact ⟨k + 1, by omega, by go_num, by go_num, by rw [← fill_step (map_some (upFrom_at _ _ _ hlt)) (by simpa using hlt)]; exact Hown.out.set_ k _, Hb.out.setCell hg1 hg2 _⟩
      case measure => simp [intOf]; omega
    · obtain rfl : k = xs.length := by omega
      go_wp2
      go_ret
      refine ⟨ret_int HR.out, ?_, Hb.out⟩
      have := Hown.out
      rwa [List.take_of_length_le (by simp [upFrom_length]), List.drop_eq_nil_of_le (by simp), List.append_nil] at this

set_option maxHeartbeats 400000 in
theorem heldIntS_c (A : Option Addr) (c n : Nat) (k0 : Int) (w : World) (ha : Ints w A (upFrom k0 n)) (hm : n ≤ 16777216) (h0 : 0 ≤ k0) (h1 : k0 ≤ 16777216) :
    Calls Try.prog 24 #[.slice A n c, .int .i64 k0] w (Quiet w (.int .i64 (k0 + n))) := by
  generalize hR : k0 + (n : Int) = R
  have HR := Lib.hid hR
  have Ha := Lib.hid ha
  clear hR ha
  go_enter Try.func24, Try.ntmps24
  go_wp2
  go_loopw [1, 5] (fun m i wr => ∃ k : Nat, k ≤ n ∧ i = .int .i64 k ∧ m = .int .i64 (k0 + k) ∧ Dr w wr) (fun _ i _ => n - (intOf i).toNat)
  case atStart => exact ⟨0, Nat.zero_le _, rfl, by simp, Dr.refl _⟩
  case round =>
    obtain ⟨k, hk, rfl, rfl, hd⟩ := hrel
    have Hd := Lib.hid hd
    clear hd
    by_cases hlt : k < n
    · obtain ⟨ad, rfl, hca⟩ := Ha.out.keep Hd.out.keep k _ (upFrom_at n k0 k hlt)
      have hne : (k0 + (k : Int) != k0 + (k : Int)) = false := by simp
      go_wp2
      go_roundw
      case rel => exact ⟨k + 1, by omega, by go_num, by go_num, Hd.out⟩
      case measure => simp [intOf]; omega
    · obtain rfl : k = n := by omega
      go_wp2
      go_ret
      exact ⟨ret_int HR.out, Hd.out⟩

theorem total_take_le : ∀ (xss : List (List Int)) (k : Nat) (xs : List Int), xss[k]? = some xs → total (xss.take k) + xs.length ≤ total xss
  | [], _, _, h => by simp at h
  | ys :: r, 0, xs, h => by simp at h; subst h; simp [total]
  | ys :: r, k + 1, xs, h => by
    have := total_take_le r k xs (by simpa using h)
    simp [total]; omega
theorem total_take_succ : ∀ (xss : List (List Int)) (k : Nat) (xs : List Int), xss[k]? = some xs → total (xss.take (k + 1)) = total (xss.take k) + xs.length
  | [], _, _, h => by simp at h
  | ys :: r, 0, xs, h => by simp at h; subst h; simp [total]
  | ys :: r, k + 1, xs, h => by
    have := total_take_succ r k xs (by simpa using h)
    simp only [List.take_succ_cons, total]; omega
theorem markRows_at : ∀ (xss : List (List Int)) (k : Nat) (k0 : Int) (xs : List Int), xss[k]? = some xs → (markRows k0 xss)[k]? = some (upFrom (k0 + total (xss.take k)) xs.length)
  | [], _, _, _, h => by simp at h
  | ys :: r, 0, k0, xs, h => by simp at h; subst h; simp [markRows, total]
  | ys :: r, k + 1, k0, xs, h => by
    have := markRows_at r k (k0 + ys.length) xs (by simpa using h)
    simp only [markRows, List.getElem?_cons_succ, this, List.take_succ_cons, total]
    congr 2; omega

set_option maxHeartbeats 400000 in
theorem markIntSS_c (lo hi : Nat) (A : Option Addr) (c : Nat) (xss : List (List Int)) (k0 : Int) (w : World) (ha : Own2 3 22 lo hi w A c xss) (hsz : hi ≤ w.heap.size) (hm : xss.length ≤ 16777216) (hm2 : total xss ≤ 8388608) (h0 : 0 ≤ k0) (h1 : k0 ≤ 4194304) :
    Calls Try.prog 23 #[.slice A xss.length c, .int .i64 k0] w fun e w' => e = .returned (.int .i64 (k0 + total xss)) ∧ Own2 3 22 lo hi w' A c (markRows k0 xss) ∧ Only lo hi w w' := by
  generalize hR : k0 + (total xss : Int) = R
  have HR := Lib.hid hR
  have Ha := Lib.hid ha
  clear hR ha
  go_enter Try.func23, Try.ntmps23
  go_wp2
  go_loopw [1, 5] (fun m i wr => ∃ k : Nat, k ≤ xss.length ∧ i = .int .i64 k ∧ m = .int .i64 (k0 + total (xss.take k)) ∧ Own2 3 22 lo hi wr A c ((markRows k0 xss).take k ++ xss.drop k) ∧ Only lo hi w wr) (fun _ i _ => xss.length - (intOf i).toNat)
  case atStart => exact ⟨0, Nat.zero_le _, rfl, by simp [total], Ha.out, Only.refl ..⟩
  case round =>
    obtain ⟨k, hk, rfl, rfl, hown, hb⟩ := hrel
    have Hown := Lib.hid hown
    have Hb := Lib.hid hb
    clear hown hb
    by_cases hlt : k < xss.length
    · obtain ⟨xs, hx⟩ := some_of hlt
      obtain ⟨ad, a, c', g, rfl, hcb, ho, hput⟩ := Hown.out.row (by decide) (Nat.le_trans hsz Hb.out.size) (k := k) (xs := xs) (by rw [fill_at (by simp [markRows_length]; omega)]; exact hx)
      have htot := total_take_le xss k xs hx
      have hsucc := total_take_succ xss k xs hx
      have Hx := Lib.hid hx
      have Ho := Lib.hid ho
      have Hput := Lib.hid hput
      have Hs := Lib.hid hsucc
      clear hx ho hput hsucc
      go_wp2_with fail
      refine (markIntS_c g (g + 1) _ _ _ _ _ Ho.out (by omega) (by omega) (by omega)).mono ?_
      rintro e w1 ⟨rfl, ho1, hb1⟩
      have hput := Hput.out w1 _ (upFrom_length _ _) hb1 ho1
      have Hp := Lib.hid hput
      clear hput ho1 hb1
      go_wp2
      go_roundw
      case rel =>
        have h2 := Hp.out.1
        rw [fill_step (markRows_at xss k k0 xs Hx.out) hlt] at h2
        exact ⟨k + 1, by omega, by go_num, by rw [Hs.out]; go_num, h2, Hb.out.trans Hp.out.2⟩
      case measure => simp [intOf]; omega
    · obtain rfl : k = xss.length := by omega
      go_wp2
      go_ret
      refine ⟨ret_int (by rw [List.take_length]; exact HR.out), ?_, Hb.out⟩
      have := Hown.out
      rwa [List.take_of_length_le (by simp [markRows_length]), List.drop_eq_nil_of_le (by simp), List.append_nil] at this

end Go.Proofs.Yteigcfcabmoghaa
