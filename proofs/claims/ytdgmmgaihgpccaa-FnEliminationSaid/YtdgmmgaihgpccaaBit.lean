/- Contracts: the members of a set and how many they are (program and reference). -/
import Derived.Test.YtdgmmgaihgpccaaBitsP
import Derived.Test.YtdgmmgaihgpccaaHelp
import Derived.Laws.BitsAllLaws
import Derived.Laws.BitsLemmas
namespace Go.Proofs.Ytdgmmgaihgpccaa
open Go.RowKit

theorem ofInt_i64 (a : Nat) (ha : a < 9223372036854775808) : (BitVec.ofInt 64 (a : Int)).toNat = a := by
  rw [BitVec.ofInt_natCast, BitVec.toNat_ofNat]; exact Nat.mod_eq_of_lt (by omega)
theorem i64_and_nat (a b : Nat) (ha : a < 9223372036854775808) (hb : b < 9223372036854775808) : bits .and .i64 (a : Int) (b : Int) = ((a &&& b : Nat) : Int) := by
  have hx : a &&& b < 2 ^ 63 := Nat.and_lt_two_pow _ (by omega)
  show IntKind.i64.wrap ((((BitVec.ofInt 64 (a : Int)) &&& (BitVec.ofInt 64 (b : Int))).toNat : Nat) : Int) = _
  rw [BitVec.toNat_and, ofInt_i64 a ha, ofInt_i64 b hb, IntKind.wrap_i64]
  omega
theorem i64_or_nat (a b : Nat) (ha : a < 9223372036854775808) (hb : b < 9223372036854775808) : bits .or .i64 (a : Int) (b : Int) = ((a ||| b : Nat) : Int) := by
  have hx : a ||| b < 2 ^ 63 := Nat.or_lt_two_pow (by omega) (by omega)
  show IntKind.i64.wrap ((((BitVec.ofInt 64 (a : Int)) ||| (BitVec.ofInt 64 (b : Int))).toNat : Nat) : Int) = _
  rw [BitVec.toNat_or, ofInt_i64 a ha, ofInt_i64 b hb, IntKind.wrap_i64]
  omega
theorem and_one (x : Nat) (hx : x < 9223372036854775808) : bits .and .i64 (x : Int) 1 = ((x % 2 : Nat) : Int) := by
  have := i64_and_nat x 1 hx (by decide)
  rwa [Nat.and_one_is_mod] at this
theorem shr_nat (s k : Nat) : (s : Int) / 2 ^ k = ((s / 2 ^ k : Nat) : Int) := by
  rw [Int.natCast_ediv, Int.natCast_pow]; rfl
theorem div_lt' (s k : Nat) (h : s < 9223372036854775808) : s / 2 ^ k < 9223372036854775808 := Nat.lt_of_le_of_lt (Nat.div_le_self _ _) h

theorem bitsF_ne : ∀ (f a x : Nat), 0 < x → x < 2 ^ f → bitsF f a x ≠ []
  | 0, _, x, h, h2 => by simp at h2; omega
  | f + 1, a, x, h, h2 => by
    rw [bitsF]
    split
    · simp
    · exact bitsF_ne f (a + 1) (x / 2) (by omega) (by rw [Nat.pow_succ] at h2; omega)

set_option maxHeartbeats 1000000 in
theorem membersOf_c (f s : Nat) (w : World) (hs : s < 2 ^ f) (hf : f ≤ 60) :
    Calls Try.prog 62 #[.int .i64 s] w (GivesI 3 w ((bitsF f 0 s).map Int.ofNat)) := by
  generalize hR : bitsF f 0 s = R
  have HR := Lib.hid hR
  clear hR
  have hs60 : s < 9223372036854775808 := Nat.lt_of_lt_of_le hs (Nat.le_trans (Nat.pow_le_pow_right (by decide) hf) (by decide))
  have hlenR : R.length ≤ f := by rw [← HR.out]; exact bitsF_len _ _ _
  go_enter Try.func62, Try.ntmps62
  go_wp2
  go_loopw [4, 3] (fun i o wr => ∃ (k : Nat) (l : List Nat) (A : Option Addr) (c : Nat), k ≤ f ∧ i = .int .i64 k ∧ o = .slice A l.length c ∧ l ++ bitsF (f - k) k (s / 2 ^ k) = R ∧ Own 3 w.heap.size wr.heap.size wr A c ((l.map Int.ofNat).map (.int .i64)) ∧ Below w.heap.size w wr) (fun i _ _ => f - (intOf i).toNat)
  case atStart => exact ⟨0, [], none, 0, Nat.zero_le _, rfl, rfl, by simpa using HR.out, Own.nil .., Below.refl _ _⟩
  case round =>
    obtain ⟨k, l, A, c, hk, rfl, rfl, hS, ho, hb⟩ := hrel
    have HS := Lib.hid hS
    have Ho := Lib.hid ho
    have Hb := Lib.hid hb
    clear hS ho hb
    obtain ⟨x, hx⟩ : ∃ x, s / 2 ^ k = x := ⟨_, rfl⟩
    have e1 : (s : Int) / 2 ^ k = (x : Int) := by rw [← hx]; exact shr_nat s k
    have e2 : bits .and .i64 (x : Int) 1 = ((x % 2 : Nat) : Int) := and_one x (by rw [← hx]; exact div_lt' s k hs60)
    have hfx : k = f → x = 0 := fun h => by rw [← hx, h]; exact Nat.div_eq_of_lt hs
    have hx2 : s / 2 ^ (k + 1) = x / 2 := by rw [← hx, Nat.pow_succ, Nat.div_div_eq_div_mul]
    have HS1 : Hid (l ++ bitsF (f - k) k x = R) := Lib.hid (by rw [← hx]; exact HS.out)
    have Hx := Lib.hid hx
    clear hx
    by_cases h0 : 0 < x
    · have hkf : k < f := by rcases Nat.lt_or_ge k f with h | h; exact h; exact absurd (hfx (by omega)) (by omega)
      have hlen : l.length < f := by
        have h := HS1.out
        have hl := congrArg List.length h
        rw [List.length_append] at hl
        by_cases h1 : x % 2 = 1
        · rw [show f - k = (f - k - 1) + 1 from by omega, bitsF, if_pos h1, List.length_cons] at hl
          omega
        · have h2 : bitsF (f - k) k x ≠ [] := bitsF_ne _ _ _ h0 (by rw [← Hx.out]; rw [Nat.div_lt_iff_lt_mul (Nat.two_pow_pos _), ← Nat.pow_add]; rw [show f - k + k = f from by omega]; exact hs)
          have := List.length_pos_iff.2 h2
          omega
      have HS2 : Hid (l ++ (if x % 2 = 1 then k :: bitsF (f - (k + 1)) (k + 1) (x / 2) else bitsF (f - (k + 1)) (k + 1) (x / 2)) = R) := Lib.hid (by
        have := HS1.out
        rwa [show f - k = (f - (k + 1)) + 1 from by omega, bitsF] at this)
      clear hfx
      by_cases h1 : x % 2 = 1
      · have e3 : ((x : Int) % 2 == 1) = true := by simp; omega
        have HS3 : Hid ((l ++ [k]) ++ bitsF (f - (k + 1)) (k + 1) (s / 2 ^ (k + 1)) = R) := Lib.hid (by have := HS2.out; rw [if_pos h1] at this; rw [hx2]; simpa using this)
        have hlm : l.length = ((l.map Int.ofNat).map (Value.int .i64)).length := by simp
        have H1 := Lib.hid h1
        have Hx2 := Lib.hid hx2
        have Hlm := Lib.hid hlm
        clear h1 hx2 hlm
        go_wp2_with (at_builtin; refine wpList_app1 rfl (.tmp 16) (.tmp 18) 22 rfl 3 (.int .i64 0) 8 Try.underlying22 info_int rfl w.heap.size A c ((l.map Int.ofNat).map (.int .i64)) ?_ ?_ (.int .i64 k) rfl ?_ ?_ l.length ?_ ?_ ?_ ?_; exact Ho.out; exact Hb.out.size; (rw [← Hlm.out]; omega); decide; exact Hlm.out; rfl; rfl; intro A' c' w' ho' hb' hg' _)
        have hb2 := Hb.out.trans hb'
        have Ho' := Lib.hid ho'
        have Hb2 := Lib.hid hb2
        clear ho' hb2
        clear hb' hg'
        go_wp2
        go_roundw
        case rel => exact ⟨k + 1, l ++ [k], A', c', by omega, by go_num, by simp, HS3.out, by simpa using Ho'.out, Hb2.out⟩
        case measure => simp [intOf]; omega
      · have e3 : ((x : Int) % 2 == 1) = false := by simp; omega
        have HS3 : Hid (l ++ bitsF (f - (k + 1)) (k + 1) (s / 2 ^ (k + 1)) = R) := Lib.hid (by have := HS2.out; rw [if_neg h1] at this; rw [hx2]; exact this)
        have H1 := Lib.hid h1
        have Hx2 := Lib.hid hx2
        clear h1 hx2
        go_wp2
        go_roundw
        case rel => exact ⟨k + 1, l, A, c, by omega, by go_num, rfl, HS3.out, Ho.out, Hb.out⟩
        case measure => simp [intOf]; omega
    · obtain rfl : x = 0 := by omega
      have HS2 : Hid (l = R) := Lib.hid (by have := HS1.out; rwa [bitsF_zero, List.append_nil] at this)
      clear hfx hx2
      go_wp2
      go_ret
      rw [← HS2.out]
      exact ⟨A, c, by simp, Ho.out, Hb.out⟩

set_option maxHeartbeats 1000000 in
theorem l02Bits_c (f s : Nat) (w : World) (hs : s < 2 ^ f) (hf : f ≤ 60) :
    Calls Try.prog 61 #[.int .i64 s] w (Quiet w (.int .i64 ((bitsF f 0 s).length : Nat))) := by
  generalize hR : (bitsF f 0 s).length = R
  have HR := Lib.hid hR
  clear hR
  have hs60 : s < 9223372036854775808 := Nat.lt_of_lt_of_le hs (Nat.le_trans (Nat.pow_le_pow_right (by decide) hf) (by decide))
  go_enter Try.func61, Try.ntmps61
  go_wp2
  go_loopw [0, 3] (fun n k wr => ∃ (g a x : Nat), n = .int .i64 x ∧ k = .int .i64 a ∧ a + (bitsF g 0 x).length = R ∧ x < 2 ^ g ∧ a + g ≤ 60 ∧ x < 9223372036854775808 ∧ Dr w wr) (fun n _ _ => (intOf n).toNat)
  case atStart => exact ⟨f, 0, s, rfl, rfl, by simpa using HR.out, hs, by omega, hs60, Dr.refl _⟩
  case round =>
    obtain ⟨g, a, x, rfl, rfl, hS, hx, hag, hx60, hd⟩ := hrel
    have HS := Lib.hid hS
    have Hx := Lib.hid hx
    have Hd := Lib.hid hd
    clear hS hx hd
    by_cases h0 : 0 < x
    · have hg : ∃ g', g = g' + 1 := by
        cases g with
        | zero => have := Hx.out; simp at this; omega
        | succ g' => exact ⟨g', rfl⟩
      obtain ⟨g, rfl⟩ := hg
      have e2 : bits .and .i64 (x : Int) 1 = ((x % 2 : Nat) : Int) := and_one x hx60
      have hm : x % 2 < 2 := Nat.mod_lt _ (by decide)
      have hx1 : x / 2 < 2 ^ g := by have := Hx.out; rw [Nat.pow_succ] at this; omega
      have HS1 : Hid ((a + x % 2) + (bitsF g 0 (x / 2)).length = R) := Lib.hid (by
        have := HS.out
        rw [bitsF] at this
        rw [bitsF_len_eq g 0 (0 + 1)]
        by_cases h1 : x % 2 = 1
        · rw [if_pos h1, List.length_cons] at this; omega
        · rw [if_neg h1] at this; omega)
      have Hx1 := Lib.hid hx1
      clear hx1
      go_wp2
      go_roundw
      case rel => exact ⟨g, a + x % 2, x / 2, by go_num, by go_num, HS1.out, Hx1.out, by omega, by omega, Hd.out⟩
      case measure => simp [intOf]; omega
    · obtain rfl : x = 0 := by omega
      have HS1 : Hid (a = R) := Lib.hid (by have := HS.out; rwa [bitsF_zero] at this)
      go_wp2
      go_ret
      exact ⟨ret_int (by rw [HS1.out]), Hd.out⟩
end Go.Proofs.Ytdgmmgaihgpccaa
