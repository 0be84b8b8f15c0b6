
/- Contracts: whether patterns differ (program and reference). -/
import Derived.Test.YtfkccgblgjpalaaGreatPats
namespace Go.Proofs.YtfkccgblgjpalaaGreat
open Go.RowKit

theorem Own.capS {T : TypeId} {lo hi : Nat} {w : World} {A : Option Addr} {c : Nat} {ss : List ByteArray} (h : Own T lo hi w A c (ss.map .string)) : ss.length ≤ c := by
  have := h.1; rwa [List.length_map] at this
theorem str_eq {a b : ByteArray} (h : a = b) : (a.toList == b.toList) = true := by rw [h]; simp
theorem str_ne {a b : ByteArray} (h : a ≠ b) : (a.toList == b.toList) = false := by
  rw [beq_eq_false_iff_ne]
  intro e
  rw [Lib.toList_data, Lib.toList_data] at e
  exact h (by cases a; cases b; simp at e; rw [e])
theorem strs_take {w : World} {A : Option Addr} {ss : List ByteArray} (h : Strs w A ss) (k : Nat) : Strs w A (ss.take k) := fun j u hj => by
  rw [List.getElem?_take] at hj
  split at hj
  · exact h j u hj
  · cases hj

def inS (v : ByteArray) (xs : List ByteArray) : Bool := xs.any fun x => decide (v = x)
theorem inS_true (v : ByteArray) (xs : List ByteArray) : inS v xs = true ↔ v ∈ xs := by simp [inS]

set_option maxHeartbeats 400000 in
theorem indexS_c (A : Option Addr) (c : Nat) (xs : List ByteArray) (v : ByteArray) (w : World) (ha : Strs w A xs) (hm : xs.length ≤ 1048576) :
    Calls Tryz.prog 60 #[.slice A xs.length c, .string v] w (Quiet w (.int .i64 (idxFrom (fun x => decide (v = x)) 0 xs))) := by
  generalize hR : idxFrom (fun x => decide (v = x)) 0 xs = R
  have HR := Lib.hid hR
  clear hR
  have Ha := Lib.hid ha
  clear ha
  go_enter Tryz.func60, Tryz.ntmps60
  go_wp2
  go_loopw [5, 8] (fun _ i wr => ∃ k : Nat, k ≤ xs.length ∧ i = .int .i64 k ∧ idxFrom (fun x => decide (v = x)) k (xs.drop k) = R ∧ Dr w wr) (fun _ i _ => xs.length - (intOf i).toNat)
  case atStart => exact ⟨0, Nat.zero_le _, rfl, HR.out, Dr.refl _⟩
  case round =>
    obtain ⟨k, hk, rfl, hS, hd⟩ := hrel
    have HS := Lib.hid hS
    have Hd := Lib.hid hd
    clear hS hd
    by_cases hlt : k < xs.length
    · obtain ⟨x, hx⟩ := some_of hlt
      obtain ⟨ad, rfl, hca⟩ := Ha.out.keep Hd.out.keep k x hx
      by_cases hp : v = x
      · have hp' := str_eq hp
        have HS2 : Hid ((k : Int) = R) := Lib.hid (by have := HS.out; rw [drop_of hx, idxFrom, decide_eq_true hp] at this; exact this)
        have Hx := Lib.hid hx
        have Hp := Lib.hid hp
        clear hx hp
        go_wp2
        go_ret
        exact ⟨ret_int HS2.out, Hd.out⟩
      · have hp' := str_ne hp
        have HS2 : Hid (idxFrom (fun x => decide (v = x)) (k + 1) (xs.drop (k + 1)) = R) := Lib.hid (by have := HS.out; rw [drop_of hx, idxFrom, decide_eq_false hp] at this; exact this)
        have Hx := Lib.hid hx
        have Hp := Lib.hid hp
        clear hx hp
        go_wp2
        go_roundw
        case rel => exact ⟨k + 1, by omega, by go_num, HS2.out, Hd.out⟩
        case measure => simp [intOf]; omega
    · obtain rfl : k = xs.length := by omega
      go_wp2
      go_ret
      exact ⟨ret_int (by have := HS.out; rwa [List.drop_length, idxFrom] at this), Hd.out⟩

set_option maxHeartbeats 400000 in
theorem containsStr_c (A : Option Addr) (c : Nat) (xs : List ByteArray) (v : ByteArray) (w : World) (ha : Strs w A xs) (hm : xs.length ≤ 1048576) :
    Calls Tryz.prog 46 #[.slice A xs.length c, .string v] w (Quiet w (.bool (inS v xs))) := by
  have HR : Hid (decide (idxFrom (fun x => decide (v = x)) 0 xs ≥ 0) = inS v xs) := Lib.hid (idxFrom_any (fun x => decide (v = x)) xs 0)
  generalize hv : idxFrom (fun x => decide (v = x)) 0 xs = i at HR
  generalize inS v xs = R at HR
  have hc := calls_v (indexS_c A c xs v w ha hm) (congrArg (Value.int .i64) hv)
  have Hc := Lib.hid hc
  clear hc
  clear ha hv
  go_enter Tryz.func46, Tryz.ntmps46
  go_wp2_with fail
  refine Hc.out.mono ?_
  rintro e w1 ⟨rfl, hq⟩
  go_wp2
  go_ret
  exact ⟨ret_bool HR.out, hq⟩

def allDiff : List ByteArray → List ByteArray → Bool
  | [], _ => true
  | p :: r, seen => !inS p seen && allDiff r (seen ++ [p])
def diffF (ss : List ByteArray) : Bool := patsOk ss && allDiff ss []

set_option maxHeartbeats 1000000 in
theorem iAreDifferent_c (A : Option Addr) (c : Nat) (ss : List ByteArray) (w : World) (ha : Strs w A ss) (hm : ss.length ≤ 1048576) (hcap : ss.length ≤ c) :
    Calls Tryz.prog 14 #[.slice A ss.length c] w (Gives w (.bool (diffF ss))) := by
  generalize hR : diffF ss = R
  have HR := Lib.hid hR
  clear hR
  have Ha := Lib.hid ha
  clear ha
  cases h1 : patsOk ss
  · have HS : Hid (false = R) := Lib.hid (by rw [← HR.out]; simp [diffF, h1])
    have H1 := Lib.hid h1
    clear h1
    go_enter Tryz.func14, Tryz.ntmps14
    go_wp2_with fail
    refine (gives_v (iPatternsOk_c _ _ _ _ Ha.out hm) (congrArg Value.bool H1.out)).mono ?_
    rintro e w1 ⟨rfl, hb1⟩
    go_wp2
    go_ret
    exact ⟨ret_bool HS.out, hb1⟩
  · have HS : Hid (allDiff (ss.drop 0) (ss.take 0) = R) := Lib.hid (by rw [← HR.out]; simp [diffF, h1])
    have H1 := Lib.hid h1
    clear h1
    go_enter Tryz.func14, Tryz.ntmps14
    go_wp2_with fail
    refine (gives_v (iPatternsOk_c _ _ _ _ Ha.out hm) (congrArg Value.bool H1.out)).mono ?_
    rintro e w1 ⟨rfl, hb1⟩
    have Hb1 := Lib.hid hb1
    clear hb1
    go_wp2
    go_loopw [10] (fun i wr => ∃ k : Nat, k ≤ ss.length ∧ i = .int .i64 k ∧ allDiff (ss.drop k) (ss.take k) = R ∧ Below w.heap.size w wr) (fun i _ => ss.length - (intOf i).toNat)
    case atStart => exact ⟨0, Nat.zero_le _, rfl, HS.out, Hb1.out⟩
    case round =>
      obtain ⟨k, hk, rfl, hS, hd⟩ := hrel
      have HS := Lib.hid hS
      have Hd := Lib.hid hd
      clear hS hd
      by_cases hlt : k < ss.length
      · obtain ⟨x, hx⟩ := some_of hlt
        have hs := Ha.out.keep (keep_of_below Hd.out)
        obtain ⟨ad, rfl, hca⟩ := hs k x hx
        have HS1 : Hid ((!inS x (ss.take k) && allDiff (ss.drop (k + 1)) (ss.take (k + 1))) = R) := Lib.hid (by have := HS.out; rw [drop_of hx, allDiff] at this; rw [take_of hx]; exact this)
        have hcon := containsStr_c (some ad) c (ss.take k) x wr (strs_take hs k) (by rw [List.length_take]; omega)
        rw [List.length_take, Nat.min_eq_left hk] at hcon
        clear hs
        cases hin : inS x (ss.take k)
        · rw [hin] at hcon
          have HS2 : Hid (allDiff (ss.drop (k + 1)) (ss.take (k + 1)) = R) := Lib.hid (by have := HS1.out; rwa [hin, Bool.not_false, Bool.true_and] at this)
          have Hin := Lib.hid hin
          have Hcon := Lib.hid hcon
          have Hx := Lib.hid hx
          clear hin hcon hx
          go_wp2_with fail
          refine Hcon.out.mono ?_
          rintro e w2 ⟨rfl, hq2⟩
          have Hd2 := Lib.hid (below_dr Hd.out hq2)
          clear hq2
          go_wp2
          go_roundw
          case rel => exact ⟨k + 1, by omega, by go_num, HS2.out, Hd2.out⟩
          case measure => simp [intOf]; omega
        · rw [hin] at hcon
          have HS2 : Hid (false = R) := Lib.hid (by have := HS1.out; rwa [hin] at this)
          have Hin := Lib.hid hin
          have Hcon := Lib.hid hcon
          have Hx := Lib.hid hx
          clear hin hcon hx
          go_wp2_with fail
          refine Hcon.out.mono ?_
          rintro e w2 ⟨rfl, hq2⟩
          go_wp2
          go_ret
          exact ⟨ret_bool HS2.out, below_dr Hd.out hq2⟩
      · obtain rfl : k = ss.length := by omega
        have HS1 : Hid (true = R) := Lib.hid (by have := HS.out; rwa [List.drop_length, allDiff] at this)
        go_wp2
        go_ret
        exact ⟨ret_bool HS1.out, Hd.out⟩

end Go.Proofs.YtfkccgblgjpalaaGreat
