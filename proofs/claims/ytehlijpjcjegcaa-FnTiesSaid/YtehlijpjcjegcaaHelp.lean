/- Contracts of the laws' own helpers on lists of numbers and on lists of lists: how many cells they hold, copies, equality, marks. -/
import Derived.Test.YtehlijpjcjegcaaRows
import Derived.Test.YtehlijpjcjegcaaBase
namespace Go.Proofs.Ytehlijpjcjegcaa
open Go.RowKit

theorem info_int : (Try.prog.info? 3).map (fun i => (i.zero, i.size, i.bytes)) = some (some (.int .i64 0), 1, 8) := by kernel_rfl
theorem info_ints : (Try.prog.info? 33).map (fun i => (i.zero, i.size, i.bytes)) = some (some (.slice none 0 0), 1, 24) := by kernel_rfl

/-! ### Sizes -/
def szR : List (List Int) → Int → Int
  | [], l => l
  | xs :: r, l => if l - xs.length < 0 then -1 else szR r (l - xs.length)
def szRows (xss : List (List Int)) (l : Int) : Int := if l - xss.length < 0 then -1 else szR xss (l - xss.length)

set_option maxHeartbeats 400000 in
theorem eqIntS_c (A B : Option Addr) (c d : Nat) (xs ys : List Int) (w : World) (ha : Ints w A xs) (hb : Ints w B ys) (hm : xs.length ≤ maxLen) :
    Calls Try.prog 18 #[.slice A xs.length c, .slice B ys.length d] w (Quiet w (.bool (decide (xs = ys)))) := by
  unfold maxLen at hm
  generalize hR : decide (xs = ys) = R
  have HR := Lib.hid hR
  have Ha := Lib.hid ha
  have Hb := Lib.hid hb
  clear hR ha hb
  by_cases hn : xs.length = ys.length
  · have hne : ((xs.length : Int) != (ys.length : Int)) = false := by rw [hn]; simp
    have Hn := Lib.hid hn
    clear hn
    go_enter Try.func18, Try.ntmps18
    go_wp2
    go_loopw [5] (fun i wr => ∃ k : Nat, k ≤ xs.length ∧ i = .int .i64 k ∧ decide (xs.drop k = ys.drop k) = R ∧ Dr w wr) (fun i _ => xs.length - (intOf i).toNat)
    case atStart => exact ⟨0, Nat.zero_le _, rfl, HR.out, Dr.refl _⟩
    case round =>
      obtain ⟨k, hk, rfl, hS, hd⟩ := hrel
      have Hd := Lib.hid hd
      clear hd
      by_cases hlt : k < xs.length
      · obtain ⟨x, hx⟩ := some_of hlt
        obtain ⟨y, hy⟩ := some_of (l := ys) (k := k) (by have := Hn.out; omega)
        obtain ⟨ad, rfl, hca⟩ := Ha.out.keep Hd.out.keep k x hx
        obtain ⟨bd, rfl, hcb⟩ := Hb.out.keep Hd.out.keep k y hy
        have hlt2 : k < ys.length := lt_of hy
        rw [drop_of hx, drop_of hy] at hS
        have HS := Lib.hid hS
        clear hS hx hy
        by_cases hxy : x = y
        · have hne : (x != y) = false := by simpa using hxy
          have Hxy := Lib.hid hxy
          clear hxy
          go_wp2
          go_quiet (fail)
          go_wp2
          go_roundw
          case rel => exact ⟨k + 1, by omega, by go_num, by rw [← HS.out, Hxy.out]; simp, Hd.out.dN _⟩
          case measure => simp [intOf]; omega
        · have hne : (x != y) = true := by simpa using hxy
          have Hxy := Lib.hid hxy
          clear hxy
          go_wp2
          go_quiet (fail)
          go_wp2
          go_ret
          exact ⟨ret_bool (by rw [← HS.out]; simp [Hxy.out]), Hd.out.dN _⟩
      · have hk' : xs.length ≤ k := by omega
        have HS := Lib.hid hS
        clear hS
        go_wp2
        go_ret
        exact ⟨ret_bool (by rw [← HS.out, drop_end hk', drop_end (by rw [← Hn.out]; exact hk')]; simp), Hd.out⟩
  · have hne : ((xs.length : Int) != (ys.length : Int)) = true := by simp; omega
    have Hn := Lib.hid hn
    clear hn
    go_enter Try.func18, Try.ntmps18
    go_wp2
    go_ret
    exact ⟨ret_bool (by rw [← HR.out, eq_comm, decide_eq_false_iff_not]; exact fun e => Hn.out (by rw [e])), Dr.refl _⟩

theorem arr_map (xs : List Int) : (xs.map (Value.int .i64)).length = xs.length := by simp

/-- What 'make' lays is a row of the call's own. -/
theorem own_made (T : TypeId) (lo : Nat) (w : World) (z : Value) (n : Nat) (hlo : lo ≤ w.heap.size) (hm : n ≤ maxLen) :
    Own T lo (w.heap.size + 1) (w.alloc (.cells (madeCells #[z] n) T)) (some ⟨w.heap.size, 0, none⟩) n (List.replicate n z) := by
  refine ⟨by simp, hm, .inr ⟨w.heap.size, _, rfl, hlo, Nat.lt_succ_self _, heap_alloc_new w _, size_madeCells _ _, ?_⟩⟩
  rw [toList_madeCells_one]; simp

theorem replicate_drop_at {n k : Nat} {z : Value} (h : k < n) : (List.replicate n z)[k]? = some z := by simp [h]

/-- The outer row while it is filled: 'k' headers, then zero values. -/
theorem outer_step {hs : List (Option Addr × Nat)} {xss : List (List Int)} {k n : Nat} {a : Option Addr} {c' : Nat} {xs : List Int} {z : Value} (hl : hs.length = k) (hx : xss[k]? = some xs) (hn : k < n) :
    (List.zipWith hdr hs (xss.take k) ++ List.replicate (n - k) z).set k (.slice a xs.length c') = List.zipWith hdr (hs ++ [(a, c')]) (xss.take (k + 1)) ++ List.replicate (n - (k + 1)) z := by
  have hk := lt_of hx
  have hz : (List.zipWith hdr hs (xss.take k)).length = k := by simp [hl]; omega
  rw [List.set_append_right _ _ (by omega), hz, take_of hx, List.zipWith_append (by simp [hl]; omega)]
  have e : n - k = (n - (k + 1)) + 1 := by omega
  rw [e, List.replicate_succ, Nat.sub_self, List.set_cons_zero, List.append_assoc]
  rfl
theorem outer_at {hs : List (Option Addr × Nat)} {xss : List (List Int)} {k n : Nat} {z : Value} (hl : hs.length = k) (hx : k < xss.length) (hn : k < n) :
    (List.zipWith hdr hs (xss.take k) ++ List.replicate (n - k) z)[k]? = some z := by
  have hz : (List.zipWith hdr hs (xss.take k)).length = k := by simp [hl]; omega
  rw [List.getElem?_append_right (by omega), hz, Nat.sub_self]
  have e : n - k = (n - (k + 1)) + 1 := by omega
  rw [e, List.replicate_succ]; rfl

def upFrom : Int → Nat → List Int
  | _, 0 => []
  | k, n + 1 => k :: upFrom (k + 1) n
theorem upFrom_length : ∀ (n : Nat) (k : Int), (upFrom k n).length = n
  | 0, _ => rfl
  | n + 1, k => by simp [upFrom, upFrom_length n]
theorem upFrom_at : ∀ (n : Nat) (k : Int) (j : Nat), j < n → (upFrom k n)[j]? = some (k + j)
  | 0, _, _, h => by omega
  | n + 1, k, 0, _ => by simp [upFrom]
  | n + 1, k, j + 1, h => by
    rw [upFrom, List.getElem?_cons_succ, upFrom_at n (k + 1) j (by omega)]
    congr 1; omega
def total : List (List Int) → Nat
  | [] => 0
  | xs :: r => xs.length + total r
def markRows : Int → List (List Int) → List (List Int)
  | _, [] => []
  | k, xs :: r => upFrom k xs.length :: markRows (k + xs.length) r
theorem markRows_length : ∀ (xss : List (List Int)) (k : Int), (markRows k xss).length = xss.length
  | [], _ => rfl
  | xs :: r, k => by simp [markRows, markRows_length r]
theorem total_mark : ∀ (xss : List (List Int)) (k : Int), total (markRows k xss) = total xss
  | [], _ => rfl
  | xs :: r, k => by simp [markRows, total, total_mark r, upFrom_length]
theorem mark_mark : ∀ (xss : List (List Int)) (k j : Int), markRows k (markRows j xss) = markRows k xss
  | [], _, _ => rfl
  | xs :: r, k, j => by simp [markRows, mark_mark r, upFrom_length]

set_option maxHeartbeats 400000 in
theorem markIntS_c (lo hi : Nat) (A : Option Addr) (c : Nat) (xs : List Int) (k0 : Int) (w : World) (ha : Own 3 lo hi w A c (xs.map (.int .i64))) (hm : xs.length ≤ 16777216) (h0 : 0 ≤ k0) (h1 : k0 ≤ 16777216) :
    Calls Try.prog 20 #[.slice A xs.length c, .int .i64 k0] w fun e w' => e = .returned (.int .i64 (k0 + xs.length)) ∧ Own 3 lo hi w' A c ((upFrom k0 xs.length).map (.int .i64)) ∧ Only lo hi w w' := by
  generalize hR : k0 + (xs.length : Int) = R
  have HR := Lib.hid hR
  have Ha := Lib.hid ha
  clear hR ha
  go_enter Try.func20, Try.ntmps20
  go_wp2
  go_loopw [1, 5] (fun m i wr => ∃ k : Nat, k ≤ xs.length ∧ i = .int .i64 k ∧ m = .int .i64 (k0 + k) ∧ Own 3 lo hi wr A c (((upFrom k0 xs.length).map (Value.int .i64)).take k ++ (xs.map (Value.int .i64)).drop k) ∧ Only lo hi w wr) (fun _ i _ => xs.length - (intOf i).toNat)
  case atStart => exact ⟨0, Nat.zero_le _, rfl, by simp, Ha.out, Only.refl ..⟩
  case round =>
    obtain ⟨k, hk, rfl, rfl, hown, hb⟩ := hrel
    have Hown := Lib.hid hown
    have Hb := Lib.hid hb
    clear hown hb
    by_cases hlt : k < xs.length
    · obtain ⟨x, hx⟩ := some_of hlt
      obtain ⟨g, rfl, hg1, hg2, hcb, hfb⟩ := Hown.out.at_ (k := k) (u := .int .i64 x) (by rw [fill_at (by simp [upFrom_length]; omega)]; exact map_some hx)
      have Hx := Lib.hid hx
      clear hx
      go_wp2
      go_roundw
      case rel => exact ⟨k + 1, by omega, by go_num, by go_num, by rw [← fill_step (map_some (upFrom_at _ _ _ hlt)) (by simpa using hlt)]; exact Hown.out.set_ k _, Hb.out.setCell hg1 hg2 _⟩
      case measure => simp [intOf]; omega
    · obtain rfl : k = xs.length := by omega
      go_wp2
      go_ret
      refine ⟨ret_int HR.out, ?_, Hb.out⟩
      have := Hown.out
      rwa [List.take_of_length_le (by simp [upFrom_length]), List.drop_eq_nil_of_le (by simp), List.append_nil] at this

set_option maxHeartbeats 400000 in
theorem heldIntS_c (A : Option Addr) (c n : Nat) (k0 : Int) (w : World) (ha : Ints w A (upFrom k0 n)) (hm : n ≤ 16777216) (h0 : 0 ≤ k0) (h1 : k0 ≤ 16777216) :
    Calls Try.prog 21 #[.slice A n c, .int .i64 k0] w (Quiet w (.int .i64 (k0 + n))) := by
  generalize hR : k0 + (n : Int) = R
  have HR := Lib.hid hR
  have Ha := Lib.hid ha
  clear hR ha
  go_enter Try.func21, Try.ntmps21
  go_wp2
  go_loopw [1, 5] (fun m i wr => ∃ k : Nat, k ≤ n ∧ i = .int .i64 k ∧ m = .int .i64 (k0 + k) ∧ Dr w wr) (fun _ i _ => n - (intOf i).toNat)
  case atStart => exact ⟨0, Nat.zero_le _, rfl, by simp, Dr.refl _⟩
  case round =>
    obtain ⟨k, hk, rfl, rfl, hd⟩ := hrel
    have Hd := Lib.hid hd
    clear hd
    by_cases hlt : k < n
    · obtain ⟨ad, rfl, hca⟩ := Ha.out.keep Hd.out.keep k _ (upFrom_at n k0 k hlt)
      have hne : (k0 + (k : Int) != k0 + (k : Int)) = false := by simp
      go_wp2
      go_roundw
      case rel => exact ⟨k + 1, by omega, by go_num, by go_num, Hd.out⟩
      case measure => simp [intOf]; omega
    · obtain rfl : k = n := by omega
      go_wp2
      go_ret
      exact ⟨ret_int HR.out, Hd.out⟩

theorem total_take_le : ∀ (xss : List (List Int)) (k : Nat) (xs : List Int), xss[k]? = some xs → total (xss.take k) + xs.length ≤ total xss
  | [], _, _, h => by simp at h
  | ys :: r, 0, xs, h => by simp at h; subst h; simp [total]
  | ys :: r, k + 1, xs, h => by
    have := total_take_le r k xs (by simpa using h)
    simp [total]; omega
theorem total_take_succ : ∀ (xss : List (List Int)) (k : Nat) (xs : List Int), xss[k]? = some xs → total (xss.take (k + 1)) = total (xss.take k) + xs.length
  | [], _, _, h => by simp at h
  | ys :: r, 0, xs, h => by simp at h; subst h; simp [total]
  | ys :: r, k + 1, xs, h => by
    have := total_take_succ r k xs (by simpa using h)
    simp only [List.take_succ_cons, total]; omega
theorem markRows_at : ∀ (xss : List (List Int)) (k : Nat) (k0 : Int) (xs : List Int), xss[k]? = some xs → (markRows k0 xss)[k]? = some (upFrom (k0 + total (xss.take k)) xs.length)
  | [], _, _, _, h => by simp at h
  | ys :: r, 0, k0, xs, h => by simp at h; subst h; simp [markRows, total]
  | ys :: r, k + 1, k0, xs, h => by
    have := markRows_at r k (k0 + ys.length) xs (by simpa using h)
    simp only [markRows, List.getElem?_cons_succ, this, List.take_succ_cons, total]
    congr 2; omega

end Go.Proofs.Ytehlijpjcjegcaa
