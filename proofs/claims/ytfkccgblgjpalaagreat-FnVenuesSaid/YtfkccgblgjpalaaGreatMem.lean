
/- Contracts: the members of a set and how many they are (program and reference). -/
import Derived.Test.YtfkccgblgjpalaaGreatHelp
import Derived.Test.YtfkccgblgjpalaaGreatBit0
namespace Go.Proofs.YtfkccgblgjpalaaGreat
open Go.RowKit

/-- The members from a on of the set whose part from a on is x. -/
def bitsF : Nat → Nat → Nat → List Nat
  | 0, _, _ => []
  | f + 1, a, x => if x % 2 = 1 then a :: bitsF f (a + 1) (x / 2) else bitsF f (a + 1) (x / 2)
theorem bitsF_zero : ∀ (f a : Nat), bitsF f a 0 = []
  | 0, _ => rfl
  | f + 1, a => by simp [bitsF, bitsF_zero f]
theorem bitsF_lt : ∀ (f a x k : Nat), k ∈ bitsF f a x → a ≤ k ∧ k < a + f
  | 0, _, _, _, h => by simp [bitsF] at h
  | f + 1, a, x, k, h => by
    simp only [bitsF] at h
    split at h
    · rcases List.mem_cons.1 h with rfl | h
      · omega
      · have := bitsF_lt f (a + 1) (x / 2) k h; omega
    · have := bitsF_lt f (a + 1) (x / 2) k h; omega
theorem bitsF_len : ∀ (f a x : Nat), (bitsF f a x).length ≤ f
  | 0, _, _ => by simp [bitsF]
  | f + 1, a, x => by
    have := bitsF_len f (a + 1) (x / 2)
    by_cases h : x % 2 = 1 <;> simp [bitsF, h] <;> omega
theorem bitsF_len_eq : ∀ (f a b x : Nat), (bitsF f a x).length = (bitsF f b x).length
  | 0, _, _, _ => rfl
  | f + 1, a, b, x => by
    have ih := bitsF_len_eq f (a + 1) (b + 1) (x / 2)
    by_cases h : x % 2 = 1 <;> simp [bitsF, h, ih]

theorem bitsF_ne : ∀ (f a x : Nat), 0 < x → x < 2 ^ f → bitsF f a x ≠ []
  | 0, _, x, h, h2 => by simp at h2; omega
  | f + 1, a, x, h, h2 => by
    rw [bitsF]
    split
    · simp
    · exact bitsF_ne f (a + 1) (x / 2) (by omega) (by rw [Nat.pow_succ] at h2; omega)

set_option maxHeartbeats 1000000 in
theorem membersOf_c (f s : Nat) (w : World) (hs : s < 2 ^ f) (hf : f ≤ 60) :
    Calls Tryz.prog 59 #[.int .i64 s] w (GivesI 3 w ((bitsF f 0 s).map Int.ofNat)) := by
  generalize hR : bitsF f 0 s = R
  have HR := Lib.hid hR
  clear hR
  have hs60 : s < 9223372036854775808 := Nat.lt_of_lt_of_le hs (Nat.le_trans (Nat.pow_le_pow_right (by decide) hf) (by decide))
  have hlenR : R.length ≤ f := by rw [← HR.out]; exact bitsF_len _ _ _
  go_enter Tryz.func59, Tryz.ntmps59
  go_wp2
  go_loopw [4, 3] (fun i o wr => ∃ (k : Nat) (l : List Nat) (A : Option Addr) (c : Nat), k ≤ f ∧ i = .int .i64 k ∧ o = .slice A l.length c ∧ l ++ bitsF (f - k) k (s / 2 ^ k) = R ∧ Own 3 w.heap.size wr.heap.size wr A c ((l.map Int.ofNat).map (.int .i64)) ∧ Below w.heap.size w wr) (fun i _ _ => f - (intOf i).toNat)
  case atStart => exact ⟨0, [], none, 0, Nat.zero_le _, rfl, rfl, by simpa using HR.out, Own.nil .., Below.refl _ _⟩
  case round =>
    obtain ⟨k, l, A, c, hk, rfl, rfl, hS, ho, hb⟩ := hrel
    have HS := Lib.hid hS
    have Ho := Lib.hid ho
    have Hb := Lib.hid hb
    clear hS ho hb
    obtain ⟨x, hx⟩ : ∃ x, s / 2 ^ k = x := ⟨_, rfl⟩
    have e1 : (s : Int) / 2 ^ k = (x : Int) := by rw [← hx]; exact shr_nat s k
    have e2 : bits .and .i64 (x : Int) 1 = ((x % 2 : Nat) : Int) := and_one x (by rw [← hx]; exact div_lt' s k hs60)
    have hfx : k = f → x = 0 := fun h => by rw [← hx, h]; exact Nat.div_eq_of_lt hs
    have hx2 : s / 2 ^ (k + 1) = x / 2 := by rw [← hx, Nat.pow_succ, Nat.div_div_eq_div_mul]
    have HS1 : Hid (l ++ bitsF (f - k) k x = R) := Lib.hid (by rw [← hx]; exact HS.out)
    have Hx := Lib.hid hx
    clear hx
    by_cases h0 : 0 < x
    · have hkf : k < f := by rcases Nat.lt_or_ge k f with h | h; exact h; exact absurd (hfx (by omega)) (by omega)
      have hlen : l.length < f := by
        have h := HS1.out
        have hl := congrArg List.length h
        rw [List.length_append] at hl
        by_cases h1 : x % 2 = 1
        · rw [show f - k = (f - k - 1) + 1 from by omega, bitsF, if_pos h1, List.length_cons] at hl
          omega
        · have h2 : bitsF (f - k) k x ≠ [] := bitsF_ne _ _ _ h0 (by rw [← Hx.out]; rw [Nat.div_lt_iff_lt_mul (Nat.two_pow_pos _), ← Nat.pow_add]; rw [show f - k + k = f from by omega]; exact hs)
          have := List.length_pos_iff.2 h2
          omega
      have HS2 : Hid (l ++ (if x % 2 = 1 then k :: bitsF (f - (k + 1)) (k + 1) (x / 2) else bitsF (f - (k + 1)) (k + 1) (x / 2)) = R) := Lib.hid (by
        have := HS1.out
        rwa [show f - k = (f - (k + 1)) + 1 from by omega, bitsF] at this)
      clear hfx
      by_cases h1 : x % 2 = 1
      · have e3 : ((x : Int) % 2 == 1) = true := by simp; omega
        have HS3 : Hid ((l ++ [k]) ++ bitsF (f - (k + 1)) (k + 1) (s / 2 ^ (k + 1)) = R) := Lib.hid (by have := HS2.out; rw [if_pos h1] at this; rw [hx2]; simpa using this)
        have hlm : l.length = ((l.map Int.ofNat).map (Value.int .i64)).length := by simp
        have H1 := Lib.hid h1
        have Hx2 := Lib.hid hx2
        have Hlm := Lib.hid hlm
        clear h1 hx2 hlm
        go_wp2_with (at_builtin; refine wpList_app1 rfl (.tmp 16) (.tmp 18) 36 rfl 3 (.int .i64 0) 8 Tryz.underlying36 info_int rfl w.heap.size A c ((l.map Int.ofNat).map (.int .i64)) ?_ ?_ (.int .i64 k) rfl ?_ ?_ l.length ?_ ?_ ?_ ?_; exact Ho.out; exact Hb.out.size; (rw [← Hlm.out]; omega); decide; exact Hlm.out; rfl; rfl; intro A' c' w' ho' hb' hg' _)
        have hb2 := Hb.out.trans hb'
        have Ho' := Lib.hid ho'
        have Hb2 := Lib.hid hb2
        clear ho' hb2
        clear hb' hg'
        go_wp2
        go_roundw
        case rel => exact ⟨k + 1, l ++ [k], A', c', by omega, by go_num, by simp, HS3.out, by simpa using Ho'.out, Hb2.out⟩
        case measure => simp [intOf]; omega
      · have e3 : ((x : Int) % 2 == 1) = false := by simp; omega
        have HS3 : Hid (l ++ bitsF (f - (k + 1)) (k + 1) (s / 2 ^ (k + 1)) = R) := Lib.hid (by have := HS2.out; rw [if_neg h1] at this; rw [hx2]; exact this)
        have H1 := Lib.hid h1
        have Hx2 := Lib.hid hx2
        clear h1 hx2
        go_wp2
        go_roundw
        case rel => exact ⟨k + 1, l, A, c, by omega, by go_num, rfl, HS3.out, Ho.out, Hb.out⟩
        case measure => simp [intOf]; omega
    · obtain rfl : x = 0 := by omega
      have HS2 : Hid (l = R) := Lib.hid (by have := HS1.out; rwa [bitsF_zero, List.append_nil] at this)
      clear hfx hx2
      go_wp2
      go_ret
      rw [← HS2.out]
      exact ⟨A, c, by simp, Ho.out, Hb.out⟩

end Go.Proofs.YtfkccgblgjpalaaGreat
