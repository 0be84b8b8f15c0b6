/- Contracts: how many games a club has left in a race (program and reference). -/
import Derived.Test.YtdgmmgaihgpccaaRace
namespace Go.Proofs.Ytdgmmgaihgpccaa
open Go.RowKit

/-- Games of n clubs. -/
structure Games (n : Nat) (left : List (List Int)) : Prop where
  few : left.length ≤ 15
  game : ∀ g ∈ left, ∃ x y z : Nat, g = [(x : Int), (y : Int), (z : Int)] ∧ x < y ∧ y < n ∧ 1 ≤ z ∧ z ≤ 20
theorem Games.at_ {n : Nat} {left : List (List Int)} (h : Games n left) {k : Nat} {g : List Int} (hg : left[k]? = some g) : ∃ x y z : Nat, g = [(x : Int), (y : Int), (z : Int)] ∧ x < y ∧ y < n ∧ 1 ≤ z ∧ z ≤ 20 :=
  h.game g (List.mem_of_getElem? hg)
theorem gameOk_of {n : Nat} {g : List Int} (h : gameOk n g = true) : ∃ x y z : Nat, g = [(x : Int), (y : Int), (z : Int)] ∧ x < y ∧ y < n ∧ 1 ≤ z ∧ z ≤ 20 := by
  simp only [gameOk, Bool.and_eq_true, decide_eq_true_eq] at h
  obtain ⟨⟨⟨h0, h1⟩, h2⟩, h3⟩ := h
  obtain ⟨x, y, z, rfl⟩ := three_of h0
  have a1 := inR_true h1
  have a2 := inR_true h2
  have a3 := inR_true h3
  simp at a1 a2 a3
  exact ⟨x.toNat, y.toNat, z.toNat, by simp; omega, by omega, by omega, by omega, by omega⟩
theorem games_of {n : Nat} : ∀ (left seen : List (List Int)), gamesOk n seen left = true → ∀ g ∈ left, ∃ x y z : Nat, g = [(x : Int), (y : Int), (z : Int)] ∧ x < y ∧ y < n ∧ 1 ≤ z ∧ z ≤ 20
  | [], _, _, _, hg => by simp at hg
  | g :: r, seen, h, g', hg => by
    simp only [gamesOk, Bool.and_eq_true] at h
    rcases List.mem_cons.1 hg with rfl | hg
    · exact gameOk_of h.1
    · exact games_of r _ h.2.2 g' hg

/-- A race, with room for what is won behind the first day. -/
structure Race (wins : List Int) (left : List (List Int)) : Prop where
  two : 2 ≤ wins.length
  six : wins.length ≤ 6
  win : ∀ v ∈ wins, 0 ≤ v ∧ v ≤ 200
  games : Games wins.length left
theorem race_of {wins : List Int} {left : List (List Int)} (h : raceOk wins left = true) : Race wins left := by
  simp only [raceOk, Bool.and_eq_true, decide_eq_true_eq, List.all_eq_true] at h
  obtain ⟨⟨⟨h1, h2⟩, h3⟩, h4⟩ := h
  have a1 := inR_true h1
  exact ⟨by omega, by omega, fun v hv => inR_true (h2 v hv), ⟨h3, games_of _ _ h4⟩⟩

def leftOf (c : Int) : Int → List (List Int) → Int
  | s, [] => s
  | s, g :: r => leftOf c (if g.getD 0 0 = c ∨ g.getD 1 0 = c then s + g.getD 2 0 else s) r
theorem leftOf_bound {n : Nat} (c : Int) : ∀ (r : List (List Int)) (s : Int), (∀ g ∈ r, ∃ x y z : Nat, g = [(x : Int), (y : Int), (z : Int)] ∧ x < y ∧ y < n ∧ 1 ≤ z ∧ z ≤ 20) → s ≤ leftOf c s r ∧ leftOf c s r ≤ s + 20 * r.length
  | [], s, _ => by simp [leftOf]
  | g :: r, s, h => by
    obtain ⟨x, y, z, rfl, h1, h2, h3, h4⟩ := h g (by simp)
    have := leftOf_bound c r (if ([(x : Int), (y : Int), (z : Int)] : List Int).getD 0 0 = c ∨ ([(x : Int), (y : Int), (z : Int)] : List Int).getD 1 0 = c then s + ([(x : Int), (y : Int), (z : Int)] : List Int).getD 2 0 else s) (fun g hg => h g (by simp [hg]))
    unfold leftOf
    simp only [List.length_cons]
    have e : ([(x : Int), (y : Int), (z : Int)] : List Int).getD 2 0 = z := rfl
    split at this <;> rename_i hc <;> simp only [hc, if_true, if_false] <;> omega

set_option maxHeartbeats 1000000 in
theorem gamesLeft_c {n : Nat} (A : Option Addr) (c : Nat) (left : List (List Int)) (k : Int) (w : World) (ha : Rows w A left) (hg : Games n left) :
    Calls Try.prog 51 #[.slice A left.length c, .int .i64 k] w (Quiet w (.int .i64 (leftOf k 0 left))) := by
  generalize hR : leftOf k 0 left = R
  have HR := Lib.hid hR
  clear hR
  have hfew := hg.few
  have Ha := Lib.hid ha
  have Hg := Lib.hid hg
  clear ha hg
  go_enter Try.func51, Try.ntmps51
  go_wp2
  go_loopw [5, 10] (fun s i wr => ∃ (j : Nat) (a : Int), j ≤ left.length ∧ i = .int .i64 j ∧ s = .int .i64 a ∧ 0 ≤ a ∧ a ≤ 20 * j ∧ leftOf k a (left.drop j) = R ∧ Dr w wr) (fun _ i _ => left.length - (intOf i).toNat)
  case atStart => exact ⟨0, 0, Nat.zero_le _, rfl, rfl, by omega, by omega, HR.out, Dr.refl _⟩
  case round =>
    obtain ⟨j, a, hj, rfl, rfl, ha0, ha1, hS, hd⟩ := hrel
    have HS := Lib.hid hS
    have Hd := Lib.hid hd
    clear hS hd
    by_cases hlt : j < left.length
    · obtain ⟨g, hx⟩ := some_of hlt
      obtain ⟨bd, b, c', rfl, _, _, hca, hia⟩ := Ha.out.keep Hd.out.keep j g hx
      obtain ⟨x, y, z, rfl, hxy, hyn, hz1, hz2⟩ := Hg.out.at_ hx
      obtain ⟨ad, rfl, h0, h1, h2⟩ := ints3 hia
      have wa : IntKind.i64.wrap (a + (z : Int)) = a + (z : Int) := IntWalk.i64_in _ (by omega)
      have HS1 : Hid (leftOf k (if (x : Int) = k ∨ (y : Int) = k then a + z else a) (left.drop (j + 1)) = R) := Lib.hid (by have := HS.out; rw [drop_of hx, leftOf] at this; exact this)
      have Hx := Lib.hid hx
      clear hx
      clear hia
      by_cases e0 : (x : Int) = k
      · have e0' : ((x : Int) == k) = true := by simpa using e0
        have HS2 : Hid (leftOf k (a + z) (left.drop (j + 1)) = R) := Lib.hid (by have := HS1.out; rwa [if_pos (Or.inl e0)] at this)
        have E0 := Lib.hid e0
        clear e0
        go_wp2
        go_roundw
        case rel => exact ⟨j + 1, a + z, by omega, by go_num, by go_num, by omega, by omega, HS2.out, Hd.out⟩
        case measure => simp [intOf]; omega
      · have e0' : ((x : Int) == k) = false := by simpa using e0
        have E0 := Lib.hid e0
        clear e0
        by_cases e1 : (y : Int) = k
        · have e1' : ((y : Int) == k) = true := by simpa using e1
          have HS2 : Hid (leftOf k (a + z) (left.drop (j + 1)) = R) := Lib.hid (by have := HS1.out; rwa [if_pos (Or.inr e1)] at this)
          have E1 := Lib.hid e1
          clear e1
          go_wp2
          go_roundw
          case rel => exact ⟨j + 1, a + z, by omega, by go_num, by go_num, by omega, by omega, HS2.out, Hd.out⟩
          case measure => simp [intOf]; omega
        · have e1' : ((y : Int) == k) = false := by simpa using e1
          have HS2 : Hid (leftOf k a (left.drop (j + 1)) = R) := Lib.hid (by have := HS1.out; rwa [if_neg (by have := E0.out; omega)] at this)
          have E1 := Lib.hid e1
          clear e1
          go_wp2
          go_roundw
          case rel => exact ⟨j + 1, a, by omega, by go_num, by go_num, by omega, by omega, HS2.out, Hd.out⟩
          case measure => simp [intOf]; omega
    · obtain rfl : j = left.length := by omega
      go_wp2
      go_ret
      exact ⟨ret_int (by have := HS.out; rwa [List.drop_length, leftOf] at this), Hd.out⟩

set_option maxHeartbeats 1000000 in
theorem l14Left_c {n : Nat} (A : Option Addr) (c : Nat) (left : List (List Int)) (k : Int) (w : World) (ha : Rows w A left) (hg : Games n left) :
    Calls Try.prog 49 #[.slice A left.length c, .int .i64 k] w (Quiet w (.int .i64 (leftOf k 0 left))) := by
  generalize hR : leftOf k 0 left = R
  have HR := Lib.hid hR
  clear hR
  have hfew := hg.few
  have Ha := Lib.hid ha
  have Hg := Lib.hid hg
  clear ha hg
  go_enter Try.func49, Try.ntmps49
  go_wp2
  go_loopw [5, 10] (fun s i wr => ∃ (j : Nat) (a : Int), j ≤ left.length ∧ i = .int .i64 j ∧ s = .int .i64 a ∧ 0 ≤ a ∧ a ≤ 20 * j ∧ leftOf k a (left.drop j) = R ∧ Dr w wr) (fun _ i _ => left.length - (intOf i).toNat)
  case atStart => exact ⟨0, 0, Nat.zero_le _, rfl, rfl, by omega, by omega, HR.out, Dr.refl _⟩
  case round =>
    obtain ⟨j, a, hj, rfl, rfl, ha0, ha1, hS, hd⟩ := hrel
    have HS := Lib.hid hS
    have Hd := Lib.hid hd
    clear hS hd
    by_cases hlt : j < left.length
    · obtain ⟨g, hx⟩ := some_of hlt
      obtain ⟨bd, b, c', rfl, _, _, hca, hia⟩ := Ha.out.keep Hd.out.keep j g hx
      obtain ⟨x, y, z, rfl, hxy, hyn, hz1, hz2⟩ := Hg.out.at_ hx
      obtain ⟨ad, rfl, h0, h1, h2⟩ := ints3 hia
      have wa : IntKind.i64.wrap (a + (z : Int)) = a + (z : Int) := IntWalk.i64_in _ (by omega)
      have HS1 : Hid (leftOf k (if (x : Int) = k ∨ (y : Int) = k then a + z else a) (left.drop (j + 1)) = R) := Lib.hid (by have := HS.out; rw [drop_of hx, leftOf] at this; exact this)
      have Hx := Lib.hid hx
      clear hx
      clear hia
      by_cases e0 : (x : Int) = k
      · have e0' : ((x : Int) == k) = true := by simpa using e0
        have HS2 : Hid (leftOf k (a + z) (left.drop (j + 1)) = R) := Lib.hid (by have := HS1.out; rwa [if_pos (Or.inl e0)] at this)
        have E0 := Lib.hid e0
        clear e0
        go_wp2
        go_roundw
        case rel => exact ⟨j + 1, a + z, by omega, by go_num, by go_num, by omega, by omega, HS2.out, Hd.out⟩
        case measure => simp [intOf]; omega
      · have e0' : ((x : Int) == k) = false := by simpa using e0
        have E0 := Lib.hid e0
        clear e0
        by_cases e1 : (y : Int) = k
        · have e1' : ((y : Int) == k) = true := by simpa using e1
          have HS2 : Hid (leftOf k (a + z) (left.drop (j + 1)) = R) := Lib.hid (by have := HS1.out; rwa [if_pos (Or.inr e1)] at this)
          have E1 := Lib.hid e1
          clear e1
          go_wp2
          go_roundw
          case rel => exact ⟨j + 1, a + z, by omega, by go_num, by go_num, by omega, by omega, HS2.out, Hd.out⟩
          case measure => simp [intOf]; omega
        · have e1' : ((y : Int) == k) = false := by simpa using e1
          have HS2 : Hid (leftOf k a (left.drop (j + 1)) = R) := Lib.hid (by have := HS1.out; rwa [if_neg (by have := E0.out; omega)] at this)
          have E1 := Lib.hid e1
          clear e1
          go_wp2
          go_roundw
          case rel => exact ⟨j + 1, a, by omega, by go_num, by go_num, by omega, by omega, HS2.out, Hd.out⟩
          case measure => simp [intOf]; omega
    · obtain rfl : j = left.length := by omega
      go_wp2
      go_ret
      exact ⟨ret_int (by have := HS.out; rwa [List.drop_length, leftOf] at this), Hd.out⟩

end Go.Proofs.Ytdgmmgaihgpccaa
