/- Contracts: plans by exclusive or (program and reference). -/
import Derived.Test.YthbpeolcmlkneaaCircle
import Derived.Laws.BitsAllLaws
import Derived.Laws.BitsLemmas
namespace Go.Proofs.Ythbpeolcmlkneaa
open Go.RowKit

theorem ofInt_i64 (a : Nat) (ha : a < 9223372036854775808) : (BitVec.ofInt 64 (a : Int)).toNat = a := by
  rw [BitVec.ofInt_natCast, BitVec.toNat_ofNat]; exact Nat.mod_eq_of_lt (by omega)
theorem i64_xor_nat (a b : Nat) (ha : a < 9223372036854775808) (hb : b < 9223372036854775808) : bits .xor .i64 (a : Int) (b : Int) = ((a ^^^ b : Nat) : Int) := by
  have hx : a ^^^ b < 2 ^ 63 := Nat.xor_lt_two_pow (by omega) (by omega)
  show IntKind.i64.wrap ((BitVec.ofInt 64 (a : Int) ^^^ BitVec.ofInt 64 (b : Int)).toNat : Int) = _
  rw [BitVec.toNat_xor, ofInt_i64 a ha, ofInt_i64 b hb, IntKind.wrap_i64]
  omega

def xorIn (r : Nat) : Nat → Nat → List Int → List Int
  | _, 0, x => x
  | a, f + 1, x => xorIn r (a + 1) f (if a < a ^^^ (r + 1) then meetL x a (a ^^^ (r + 1)) (r % 2 == 0) else x)
def xorRound (n r : Nat) : List Int := xorIn r 0 n (List.replicate n 0)
def xorPlan (n : Nat) : List (List Int) := (List.range (n - 1)).map (xorRound n)
def isXor (n : Int) : Bool := decide (n = 2) || decide (n = 4) || decide (n = 8)
def xorOf (n : Int) : List (List Int) := if isXor n then xorPlan n.toNat else []
theorem xorIn_length (r : Nat) : ∀ (f a : Nat) (x : List Int), (xorIn r a f x).length = x.length
  | 0, _, _ => rfl
  | f + 1, a, x => by
    rw [xorIn, xorIn_length r f]
    split <;> simp [meetL_length]
theorem xorRound_length (n r : Nat) : (xorRound n r).length = n := by rw [xorRound, xorIn_length]; simp
theorem xor_at {n r : Nat} (h : r < n - 1) : (xorPlan n)[r]? = some (xorRound n r) := by rw [xorPlan, List.getElem?_map, List.getElem?_range h]; rfl
theorem xor_lt {n a m : Nat} (hn : n = 2 ∨ n = 4 ∨ n = 8) (ha : a < n) (hm : m < n) : a ^^^ m < n := by
  rcases hn with rfl | rfl | rfl
  · exact Nat.xor_lt_two_pow (n := 1) ha hm
  · exact Nat.xor_lt_two_pow (n := 2) ha hm
  · exact Nat.xor_lt_two_pow (n := 3) ha hm
def xorS (mask : Nat) (low : Bool) (a : Nat) : Int := if decide (a < a ^^^ mask) == low then ((a ^^^ mask : Nat) : Int) + 1 else -((a ^^^ mask : Nat) : Int) - 1
def xorRoundS (n mask : Nat) (low : Bool) : List Int := (List.range n).map (xorS mask low)
theorem xor_same {n r : Nat} (hn : n = 2 ∨ n = 4 ∨ n = 8) (hr : r < n - 1) : xorRoundS n (r + 1) (r % 2 == 0) = xorRound n r := by
  rcases hn with rfl | rfl | rfl
  · have : r = 0 := by omega
    subst this; decide
  · rcases (by omega : r = 0 ∨ r = 1 ∨ r = 2) with rfl | rfl | rfl <;> decide
  · rcases (by omega : r = 0 ∨ r = 1 ∨ r = 2 ∨ r = 3 ∨ r = 4 ∨ r = 5 ∨ r = 6) with rfl | rfl | rfl | rfl | rfl | rfl | rfl <;> decide

theorem isXor_cases {n : Nat} (h : isXor (n : Int) = true) : n = 2 ∨ n = 4 ∨ n = 8 := by
  simp only [isXor, Bool.or_eq_true, decide_eq_true_eq] at h; omega
theorem isXor_no {n : Int} (h : isXor n = false) : (n != 2) = true ∧ (n != 4) = true ∧ (n != 8) = true := by
  simp only [isXor, Bool.or_eq_false_iff, decide_eq_false_iff_not] at h
  obtain ⟨⟨h1, h2⟩, h3⟩ := h
  simp [h1, h2, h3]
theorem isXor_tests {n : Nat} (h : n = 2 ∨ n = 4 ∨ n = 8) : ((n : Int) != 2) = false ∨ (((n : Int) != 2) = true ∧ ((n : Int) != 4) = false) ∨ (((n : Int) != 2) = true ∧ ((n : Int) != 4) = true ∧ ((n : Int) != 8) = false) := by
  rcases h with rfl | rfl | rfl <;> decide

set_option maxHeartbeats 2000000 in
theorem iXorPlan_c (n : Int) (w : World) (hi : I64 n) :
    Calls Try.prog 36 #[.int .i64 n] w (GivesIIb 3 38 w (xorOf n) (isXor n)) := by
  cases hp : isXor n
  · have hv : xorOf n = [] := by rw [xorOf, if_neg (by simp [hp])]
    rw [hv]
    obtain ⟨h1, h2, h3⟩ := isXor_no hp
    have Hp := Lib.hid hp
    clear hp
    clear hv
    go_enter Try.func36, Try.ntmps36
    go_wp2
    go_ret2
    exact ⟨none, 0, rfl, Own2.nil .., Below.refl _ _⟩
  · have hv : xorOf n = xorPlan n.toNat := by rw [xorOf, if_pos hp]
    rw [hv]
    obtain ⟨n, rfl⟩ := Int.eq_ofNat_of_zero_le (by simp only [isXor, Bool.or_eq_true, decide_eq_true_eq] at hp; omega : 0 ≤ n)
    have hn := isXor_cases hp
    have hn8 : n ≤ 8 := by omega
    have hn2 : 2 ≤ n := by omega
    have hcl : (xorPlan n).length = n - 1 := by simp [xorPlan]
    rw [Int.toNat_natCast]
    have ht := isXor_tests hn
    have Hn := Lib.hid hn
    have Hp := Lib.hid hp
    have Hcl := Lib.hid hcl
    clear hp hcl
    clear hv hn
    rcases ht with t1 | ⟨t1, t2⟩ | ⟨t1, t2, t3⟩
    all_goals
      go_enter Try.func36, Try.ntmps36
      go_wp2
      go_loopw [4, 21] (fun v i wr => ∃ (r : Nat) (B : Option Addr) (d : Nat), r ≤ n - 1 ∧ i = .int .i64 r ∧ v = .slice B r d ∧ Own2 3 38 w.heap.size wr.heap.size wr B d ((xorPlan n).take r) ∧ Below w.heap.size w wr) (fun _ i _ => n - (intOf i).toNat)
      case atStart => exact ⟨0, none, 0, Nat.zero_le _, rfl, rfl, Own2.nil .., Below.refl _ _⟩
      case round =>
        obtain ⟨r, B, d, hr, rfl, rfl, ho, hb⟩ := hrel
        have Ho := Lib.hid ho
        have Hb := Lib.hid hb
        clear ho hb
        by_cases hlt : r < n - 1
        · have hl : ((xorPlan n).take r).length = r := by rw [List.length_take, Hcl.out]; omega
          have hlt' : (r : Int) < (n : Int) - 1 := by omega
          obtain ⟨wo, hwo⟩ : ∃ wo : World, wo = wr := ⟨_, rfl⟩
          rw [← hwo] at Ho Hb ⊢
          clear hwo wr
          have hrep : List.replicate n (Value.int .i64 0) = (List.replicate n (0 : Int)).map (.int .i64) := by simp
          have Hrep := Lib.hid hrep
          have Hl := Lib.hid hl
          have Hxl := Lib.hid (xorRound_length n r)
          clear hl hrep
          have hpar : ((r : Int) % 2 == 0) = (r % 2 == 0) := by rw [Bool.eq_iff_iff]; simp; omega
          go_wp2_with (refine wpList_mk wo rfl (.tmp 24) (.tmp 24) 38 rfl 3 (.int .i64 0) 8 Try.underlying38 info_int rfl n ?_ ?_ ?_ ?_ ?_; rfl; rfl; decide; omega; intro w0 homade hb0 hz0; rw [Hrep.out] at homade; have Ho5 := Lib.hid homade; have Hb0 := Lib.hid hb0; clear homade hb0)
          go_loopw [27] (fun i wr => ∃ (a : Nat) (x : List Int), a ≤ n ∧ i = .int .i64 a ∧ x.length = n ∧ xorIn r a (n - a) x = xorRound n r ∧ Own 3 wo.heap.size (wo.heap.size + 1) wr (some ⟨wo.heap.size, 0, none⟩) n (x.map (.int .i64)) ∧ Below wo.heap.size wo wr ∧ wo.heap.size < wr.heap.size) (fun i _ => n - (intOf i).toNat)
          case atStart =>
            refine ⟨0, List.replicate n 0, Nat.zero_le _, rfl, by simp, rfl, ?_, Hb0.out, hz0⟩
            obtain ⟨e1, e2, e3⟩ := Ho5.out
            refine ⟨e1, e2, ?_⟩
            rcases e3 with ⟨e, _⟩ | ⟨g, cs, e, _, _, e6⟩
            · cases e
            · obtain rfl : wo.heap.size = g := by injection e with e; injection e
              exact .inr ⟨_, cs, rfl, Nat.le_refl _, Nat.lt_succ_self _, e6⟩
          case round =>
            obtain ⟨a, x, ha, rfl, hxl, hxi, ho3, hb3, hz3⟩ := hrel
            have Hx2 := Lib.hid hxl
            have Hxi := Lib.hid hxi
            have Ho3 := Lib.hid ho3
            have Hb3 := Lib.hid hb3
            clear hxl hxi ho3 hb3
            by_cases hlt2 : a < n
            · obtain ⟨b, hbx⟩ : ∃ b, a ^^^ (r + 1) = b := ⟨_, rfl⟩
              have hb8 : b < n := by rw [← hbx]; exact xor_lt Hn.out hlt2 (by omega)
              have e1 : bits .xor .i64 (a : Int) ((r : Int) + 1) = (b : Int) := by
                rw [show (r : Int) + 1 = ((r + 1 : Nat) : Int) from by omega, i64_xor_nat _ _ (by omega) (by omega), hbx]
              have hstep : xorIn r (a + 1) (n - (a + 1)) (if a < b then meetL x a b (r % 2 == 0) else x) = xorRound n r := by
                have := Hxi.out
                rw [show n - a = (n - (a + 1)) + 1 from by omega, xorIn, hbx] at this
                exact this
              have Hstep := Lib.hid hstep
              clear hbx hstep
              by_cases hab : a < b
              · have hab' : (a : Int) < (b : Int) := by omega
                go_wp2_with fail
                refine (meet_c wo.heap.size (wo.heap.size + 1) wo.heap.size n x a b (r % 2 == 0) wr n Hx2.out Ho3.out hlt2 hb8 (by omega) (Nat.le_refl _) (Nat.lt_succ_self _)).mono ?_
                rintro e w3 ⟨rfl, ho4, hb4⟩
                have hb5 : Below wo.heap.size wo w3 := Hb3.out.trans (below_of_only hb4 (Nat.le_refl _) (by omega))
                have hz4 : wo.heap.size < w3.heap.size := by have := hb4.size; omega
                have Ho4 := Lib.hid ho4
                have Hb5 := Lib.hid hb5
                clear ho4 hb4 hb5
                go_wp2
                go_roundw
                case rel => exact ⟨a + 1, _, by omega, by go_num, by rw [meetL_length]; exact Hx2.out, by have := Hstep.out; rwa [if_pos hab] at this, Ho4.out, Hb5.out, hz4⟩
                case measure => simp [intOf]; omega
              · have hab' : ¬ (a : Int) < (b : Int) := by omega
                go_wp2
                go_roundw
                case rel => exact ⟨a + 1, _, by omega, by go_num, Hx2.out, by have := Hstep.out; rwa [if_neg (by omega)] at this, Ho3.out, Hb3.out, hz3⟩
                case measure => simp [intOf]; omega
            · have hfin : x = xorRound n r := by have := Hxi.out; rw [show n - a = 0 from by omega, xorIn] at this; exact this
              have ho5 := Ho3.out.wide (Nat.le_refl _) hz3
              rw [hfin] at ho5
              have Ho7 := Lib.hid ho5
              clear ho5 hfin
              go_wp2_with (at_builtin; refine wpList_app2 rfl (.tmp 45) (.tmp 47) 22 rfl 3 38 Try.underlying22 info_ints info_rows_ne w.heap.size wo.heap.size B d ((xorPlan n).take r) (some ⟨wo.heap.size, 0, none⟩) n (xorRound n r) ?_ ?_ ?_ ?_ ?_ r n ?_ ?_ ?_ ?_ ?_; exact Ho.out.below Hb3.out; exact Ho7.out; exact Hb.out.size; omega; (rw [Hl.out]; omega); exact Hl.out.symm; exact Hxl.out.symm; rfl; rfl; intro B' d' w' ho' hb' hz'; have Ho' := Lib.hid ho'; have Hb' := Lib.hid hb'; clear ho' hb')
              go_wp2
              go_roundw
              case rel => exact ⟨r + 1, B', d', by omega, by go_num, rfl, by rw [take_of (xor_at hlt)]; exact Ho'.out, (Hb.out.trans (Hb3.out.mono Hb.out.size)).trans Hb'.out⟩
              case measure => simp [intOf]; omega
        · obtain rfl : r = n - 1 := by omega
          go_wp2
          go_ret2
          have hO := Ho.out
          rw [List.take_of_length_le (by rw [Hcl.out]; exact Nat.le_refl _)] at hO
          exact ⟨B, d, by rw [Hcl.out]; rfl, hO, Hb.out⟩
end Go.Proofs.Ythbpeolcmlkneaa
