/- Contracts: whether patterns differ (program and reference). -/
import Derived.Test.YteefbnadjjcpkaaPats
namespace Go.Proofs.Yteefbnadjjcpkaa
open Go.RowKit

theorem Own.capS {T : TypeId} {lo hi : Nat} {w : World} {A : Option Addr} {c : Nat} {ss : List ByteArray} (h : Own T lo hi w A c (ss.map .string)) : ss.length ≤ c := by
  have := h.1; rwa [List.length_map] at this
theorem str_eq {a b : ByteArray} (h : a = b) : (a.toList == b.toList) = true := by rw [h]; simp
theorem str_ne {a b : ByteArray} (h : a ≠ b) : (a.toList == b.toList) = false := by
  rw [beq_eq_false_iff_ne]
  intro e
  rw [Lib.toList_data, Lib.toList_data] at e
  exact h (by cases a; cases b; simp at e; rw [e])
theorem strs_take {w : World} {A : Option Addr} {ss : List ByteArray} (h : Strs w A ss) (k : Nat) : Strs w A (ss.take k) := fun j u hj => by
  rw [List.getElem?_take] at hj
  split at hj
  · exact h j u hj
  · cases hj

def inS (v : ByteArray) (xs : List ByteArray) : Bool := xs.any fun x => decide (v = x)
theorem inS_true (v : ByteArray) (xs : List ByteArray) : inS v xs = true ↔ v ∈ xs := by simp [inS]

set_option maxHeartbeats 400000 in
theorem indexS_c (A : Option Addr) (c : Nat) (xs : List ByteArray) (v : ByteArray) (w : World) (ha : Strs w A xs) (hm : xs.length ≤ 1048576) :
    Calls Try.prog 62 #[.slice A xs.length c, .string v] w (Quiet w (.int .i64 (idxFrom (fun x => decide (v = x)) 0 xs))) := by
  generalize hR : idxFrom (fun x => decide (v = x)) 0 xs = R
  have HR := Lib.hid hR
  clear hR
  have Ha := Lib.hid ha
  clear ha
  go_enter Try.func62, Try.ntmps62
  go_wp2
  go_loopw [5, 8] (fun _ i wr => ∃ k : Nat, k ≤ xs.length ∧ i = .int .i64 k ∧ idxFrom (fun x => decide (v = x)) k (xs.drop k) = R ∧ Dr w wr) (fun _ i _ => xs.length - (intOf i).toNat)
  case atStart => exact ⟨0, Nat.zero_le _, rfl, HR.out, Dr.refl _⟩
  case round =>
    obtain ⟨k, hk, rfl, hS, hd⟩ := hrel
    have HS := Lib.hid hS
    have Hd := Lib.hid hd
    clear hS hd
    by_cases hlt : k < xs.length
    · obtain ⟨x, hx⟩ := some_of hlt
      obtain ⟨ad, rfl, hca⟩ := Ha.out.keep Hd.out.keep k x hx
      by_cases hp : v = x
      · have hp' := str_eq hp
        have HS2 : Hid ((k : Int) = R) := Lib.hid (by have := HS.out; rw [drop_of hx, idxFrom, decide_eq_true hp] at this; exact this)
        have Hx := Lib.hid hx
        have Hp := Lib.hid hp
        clear hx hp
        go_wp2
        go_ret
        exact ⟨ret_int HS2.out, Hd.out⟩
      · have hp' := str_ne hp
        have HS2 : Hid (idxFrom (fun x => decide (v = x)) (k + 1) (xs.drop (k + 1)) = R) := Lib.hid (by have := HS.out; rw [drop_of hx, idxFrom, decide_eq_false hp] at this; exact this)
        have Hx := Lib.hid hx
        have Hp := Lib.hid hp
        clear hx hp
        go_wp2
        go_roundw
        case rel => exact ⟨k + 1, by omega, by go_num, HS2.out, Hd.out⟩
        case measure => simp [intOf]; omega
    · obtain rfl : k = xs.length := by omega
      go_wp2
      go_ret
      exact ⟨ret_int (by have := HS.out; rwa [List.drop_length, idxFrom] at this), Hd.out⟩

set_option maxHeartbeats 400000 in
theorem containsStr_c (A : Option Addr) (c : Nat) (xs : List ByteArray) (v : ByteArray) (w : World) (ha : Strs w A xs) (hm : xs.length ≤ 1048576) :
    Calls Try.prog 45 #[.slice A xs.length c, .string v] w (Quiet w (.bool (inS v xs))) := by
  have HR : Hid (decide (idxFrom (fun x => decide (v = x)) 0 xs ≥ 0) = inS v xs) := Lib.hid (idxFrom_any (fun x => decide (v = x)) xs 0)
  generalize hv : idxFrom (fun x => decide (v = x)) 0 xs = i at HR
  generalize inS v xs = R at HR
  have hc := calls_v (indexS_c A c xs v w ha hm) (congrArg (Value.int .i64) hv)
  have Hc := Lib.hid hc
  clear hc
  clear ha hv
  go_enter Try.func45, Try.ntmps45
  go_wp2_with fail
  refine Hc.out.mono ?_
  rintro e w1 ⟨rfl, hq⟩
  go_wp2
  go_ret
  exact ⟨ret_bool HR.out, hq⟩

def allDiff : List ByteArray → List ByteArray → Bool
  | [], _ => true
  | p :: r, seen => !inS p seen && allDiff r (seen ++ [p])
def diffF (ss : List ByteArray) : Bool := patsOk ss && allDiff ss []

set_option maxHeartbeats 1000000 in
theorem iAreDifferent_c (A : Option Addr) (c : Nat) (ss : List ByteArray) (w : World) (ha : Strs w A ss) (hm : ss.length ≤ 1048576) (hcap : ss.length ≤ c) :
    Calls Try.prog 23 #[.slice A ss.length c] w (Gives w (.bool (diffF ss))) := by
  generalize hR : diffF ss = R
  have HR := Lib.hid hR
  clear hR
  have Ha := Lib.hid ha
  clear ha
  cases h1 : patsOk ss
  · have HS : Hid (false = R) := Lib.hid (by rw [← HR.out]; simp [diffF, h1])
    have H1 := Lib.hid h1
    clear h1
    go_enter Try.func23, Try.ntmps23
    go_wp2_with fail
    refine (gives_v (iPatternsOk_c _ _ _ _ Ha.out hm) (congrArg Value.bool H1.out)).mono ?_
    rintro e w1 ⟨rfl, hb1⟩
    go_wp2
    go_ret
    exact ⟨ret_bool HS.out, hb1⟩
  · have HS : Hid (allDiff (ss.drop 0) (ss.take 0) = R) := Lib.hid (by rw [← HR.out]; simp [diffF, h1])
    have H1 := Lib.hid h1
    clear h1
    go_enter Try.func23, Try.ntmps23
    go_wp2_with fail
    refine (gives_v (iPatternsOk_c _ _ _ _ Ha.out hm) (congrArg Value.bool H1.out)).mono ?_
    rintro e w1 ⟨rfl, hb1⟩
    have Hb1 := Lib.hid hb1
    clear hb1
    go_wp2
    go_loopw [10] (fun i wr => ∃ k : Nat, k ≤ ss.length ∧ i = .int .i64 k ∧ allDiff (ss.drop k) (ss.take k) = R ∧ Below w.heap.size w wr) (fun i _ => ss.length - (intOf i).toNat)
    case atStart => exact ⟨0, Nat.zero_le _, rfl, HS.out, Hb1.out⟩
    case round =>
      obtain ⟨k, hk, rfl, hS, hd⟩ := hrel
      have HS := Lib.hid hS
      have Hd := Lib.hid hd
      clear hS hd
      by_cases hlt : k < ss.length
      · obtain ⟨x, hx⟩ := some_of hlt
        have hs := Ha.out.keep (keep_of_below Hd.out)
        obtain ⟨ad, rfl, hca⟩ := hs k x hx
        have HS1 : Hid ((!inS x (ss.take k) && allDiff (ss.drop (k + 1)) (ss.take (k + 1))) = R) := Lib.hid (by have := HS.out; rw [drop_of hx, allDiff] at this; rw [take_of hx]; exact this)
        have hcon := containsStr_c (some ad) c (ss.take k) x wr (strs_take hs k) (by rw [List.length_take]; omega)
        rw [List.length_take, Nat.min_eq_left hk] at hcon
        clear hs
        cases hin : inS x (ss.take k)
        · rw [hin] at hcon
          have HS2 : Hid (allDiff (ss.drop (k + 1)) (ss.take (k + 1)) = R) := Lib.hid (by have := HS1.out; rwa [hin, Bool.not_false, Bool.true_and] at this)
          have Hin := Lib.hid hin
          have Hcon := Lib.hid hcon
          have Hx := Lib.hid hx
          clear hin hcon hx
          go_wp2_with fail
          refine Hcon.out.mono ?_
          rintro e w2 ⟨rfl, hq2⟩
          have Hd2 := Lib.hid (below_dr Hd.out hq2)
          clear hq2
          go_wp2
          go_roundw
          case rel => exact ⟨k + 1, by omega, by go_num, HS2.out, Hd2.out⟩
          case measure => simp [intOf]; omega
        · rw [hin] at hcon
          have HS2 : Hid (false = R) := Lib.hid (by have := HS1.out; rwa [hin] at this)
          have Hin := Lib.hid hin
          have Hcon := Lib.hid hcon
          have Hx := Lib.hid hx
          clear hin hcon hx
          go_wp2_with fail
          refine Hcon.out.mono ?_
          rintro e w2 ⟨rfl, hq2⟩
          go_wp2
          go_ret
          exact ⟨ret_bool HS2.out, below_dr Hd.out hq2⟩
      · obtain rfl : k = ss.length := by omega
        have HS1 : Hid (true = R) := Lib.hid (by have := HS.out; rwa [List.drop_length, allDiff] at this)
        go_wp2
        go_ret
        exact ⟨ret_bool HS1.out, Hd.out⟩

set_option maxHeartbeats 1000000 in
theorem sAreDifferent_c (A : Option Addr) (c : Nat) (ss : List ByteArray) (w : World) (ha : Strs w A ss) (hm : ss.length ≤ 1048576) (hcap : ss.length ≤ c) :
    Calls Try.prog 22 #[.slice A ss.length c] w (Quiet w (.bool (diffF ss))) := by
  generalize hR : diffF ss = R
  have HR := Lib.hid hR
  clear hR
  have Ha := Lib.hid ha
  clear ha
  cases h1 : patsOk ss
  · have HS : Hid (false = R) := Lib.hid (by rw [← HR.out]; simp [diffF, h1])
    have H1 := Lib.hid h1
    clear h1
    go_enter Try.func22, Try.ntmps22
    go_wp2_with fail
    refine (calls_v (sPatternsOk_c _ _ _ _ Ha.out) (congrArg Value.bool H1.out)).mono ?_
    rintro e w1 ⟨rfl, hb1⟩
    go_wp2
    go_ret
    exact ⟨ret_bool HS.out, hb1⟩
  · have HS : Hid (allDiff (ss.drop 0) (ss.take 0) = R) := Lib.hid (by rw [← HR.out]; simp [diffF, h1])
    have H1 := Lib.hid h1
    clear h1
    go_enter Try.func22, Try.ntmps22
    go_wp2_with fail
    refine (calls_v (sPatternsOk_c _ _ _ _ Ha.out) (congrArg Value.bool H1.out)).mono ?_
    rintro e w1 ⟨rfl, hb1⟩
    have Hb1 := Lib.hid hb1
    clear hb1
    go_wp2
    go_loopw [12] (fun i wr => ∃ k : Nat, k ≤ ss.length ∧ i = .int .i64 k ∧ allDiff (ss.drop k) (ss.take k) = R ∧ Dr w wr) (fun i _ => ss.length - (intOf i).toNat)
    case atStart => exact ⟨0, Nat.zero_le _, rfl, HS.out, Hb1.out⟩
    case round =>
      obtain ⟨k, hk, rfl, hS, hd⟩ := hrel
      have HS := Lib.hid hS
      have Hd := Lib.hid hd
      clear hS hd
      by_cases hlt : k < ss.length
      · obtain ⟨x, hx⟩ := some_of hlt
        obtain ⟨ad, rfl, hca⟩ := Ha.out.keep Hd.out.keep k x hx
        have HS1 : Hid ((!inS x (ss.take k) && allDiff (ss.drop (k + 1)) (ss.take (k + 1))) = R) := Lib.hid (by have := HS.out; rw [drop_of hx, allDiff] at this; rw [take_of hx]; exact this)
        have Hx := Lib.hid hx
        clear hx
        go_wp2
        clear hca
        obtain ⟨wo, hwo⟩ : ∃ wo : World, wo = wr := ⟨_, rfl⟩
        rw [← hwo] at Hd ⊢
        clear hwo wr
        go_loopw [21] (fun i wr => ∃ j : Nat, j ≤ k ∧ i = .int .i64 j ∧ (∀ q ∈ (ss.take k).take j, x ≠ q) ∧ Dr w wr) (fun i _ => k - (intOf i).toNat)
        case atStart => exact ⟨0, Nat.zero_le _, rfl, fun q hq => by simp at hq, Hd.out⟩
        case round =>
          clear Hd
          obtain ⟨j, hj, rfl, hin, hd⟩ := hrel
          have Hin := Lib.hid hin
          have Hd := Lib.hid hd
          clear hin hd
          by_cases hlt2 : j < k
          · obtain ⟨y, hy⟩ := some_of (l := ss) (k := j) (by omega)
            obtain ⟨ae, eae, hcb⟩ := Ha.out.keep Hd.out.keep j y hy
            obtain rfl : ad = ae := by injection eae
            have hyt : (ss.take k)[j]? = some y := by rw [List.getElem?_take, if_pos hlt2]; exact hy
            have hjc : (j : Int) < (k : Int) := by omega
            by_cases hxy : x = y
            · have hxy' := str_eq hxy
              have HS2 : Hid (false = R) := Lib.hid (by have := HS1.out; rwa [(inS_true _ _).2 (by rw [hxy]; exact List.mem_of_getElem? hyt)] at this)
              have Hy := Lib.hid hy
              have Hyt := Lib.hid hyt
              have Hxy := Lib.hid hxy
              clear hy hyt hxy
              clear eae
              go_wp2
              go_ret
              exact ⟨ret_bool HS2.out, Hd.out⟩
            · have hxy' := str_ne hxy
              have hin2 : ∀ q ∈ (ss.take k).take (j + 1), x ≠ q := fun q hq => by
                rw [take_of hyt] at hq
                rcases List.mem_append.1 hq with hq | hq
                · exact Hin.out q hq
                · rw [List.mem_singleton] at hq; rw [hq]; exact hxy
              have Hy := Lib.hid hy
              have Hyt := Lib.hid hyt
              have Hxy := Lib.hid hxy
              have Hin2 := Lib.hid hin2
              clear hy hyt hxy hin2
              clear eae
              go_wp2
              go_roundw
              case rel => exact ⟨j + 1, by omega, by go_num, Hin2.out, Hd.out⟩
              case measure => simp [intOf]; omega
          · obtain rfl : j = k := by omega
            have HS2 : Hid (allDiff (ss.drop (j + 1)) (ss.take (j + 1)) = R) := Lib.hid (by
              have := HS1.out
              have h0 : inS x (ss.take j) = false := Bool.eq_false_iff.2 (fun h => Hin.out x (by rw [List.take_take, Nat.min_self]; exact (inS_true _ _).1 h) rfl)
              rwa [h0, Bool.not_false, Bool.true_and] at this)
            go_wp2
            go_roundw
            case rel => exact ⟨j + 1, by omega, by go_num, HS2.out, Hd.out⟩
            case measure => simp [intOf]; omega
      · obtain rfl : k = ss.length := by omega
        have HS1 : Hid (true = R) := Lib.hid (by have := HS.out; rwa [List.drop_length, allDiff] at this)
        go_wp2
        go_ret
        exact ⟨ret_bool HS1.out, Hd.out⟩
end Go.Proofs.Yteefbnadjjcpkaa
