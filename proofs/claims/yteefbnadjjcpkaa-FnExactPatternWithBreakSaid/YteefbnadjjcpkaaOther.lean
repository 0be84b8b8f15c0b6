/- Contracts: the other pattern (reference). -/
import Derived.Test.YteefbnadjjcpkaaRepT
namespace Go.Proofs.Yteefbnadjjcpkaa
open Go.RowKit
set_option linter.unusedVariables false
set_option linter.unusedSimpArgs false

theorem other_H (w : World) : Calls Try.prog 55 #[.string ⟨#[72]⟩] w (Quiet w (.string ⟨#[65]⟩)) := by
  have hl : (⟨#[72]⟩ : ByteArray).toList = [72] := by decide +kernel
  go_enter Try.func55, Try.ntmps55
  go_wp2
  go_ret
  exact ⟨rfl, Dr.refl _⟩
theorem other_A (w : World) : Calls Try.prog 55 #[.string ⟨#[65]⟩] w (Quiet w (.string ⟨#[72]⟩)) := by
  have hl : (⟨#[72]⟩ : ByteArray).toList = [72] := by decide +kernel
  have hl2 : (⟨#[65]⟩ : ByteArray).toList = [65] := by decide +kernel
  go_enter Try.func55, Try.ntmps55
  go_wp2
  go_ret
  exact ⟨rfl, Dr.refl _⟩
theorem one_of (s : ByteArray) (k : Nat) (hk : k < s.size) : s.extract k (k + 1) = ⟨#[s[k]]⟩ := by
  apply ByteArray.ext
  apply Array.ext'
  have h1 : (s.extract k (k + 1)).data = s.data.extract k (k + 1) := ByteArray.data_extract ..
  rw [h1]
  apply List.ext_getElem?
  intro i
  have hs : k < s.data.size := hk
  cases i with
  | zero => simp [hs]; rw [Array.getElem?_eq_getElem hs]; rfl
  | succ i => simp; omega
theorem str_snoc' (xs : List Int) (b : UInt8) (y : Int) (h : UInt8.ofNat y.toNat = b) : strOfNums xs ++ ⟨#[b]⟩ = strOfNums (xs ++ [y]) := by
  apply ByteArray.ext
  simp [strOfNums, h]
def swI (c : UInt8) : Int := ((swapB c.toNat : Nat) : Int)

set_option maxHeartbeats 1000000 in
theorem sOtherPattern_c (s : ByteArray) (w : World) : Calls Try.prog 36 #[.string s] w (Quiet w (.string (otherF s))) := by
  cases h1 : patOk s
  · have hR : otherF s = ⟨#[]⟩ := by rw [otherF, if_neg (by rw [h1]; decide)]
    rw [hR]
    have H1 := Lib.hid h1
    have HR := Lib.hid hR
    clear h1 hR
    go_enter Try.func36, Try.ntmps36
    go_wp2_with fail
    refine (calls_v (sPatternOk_c _ _) (congrArg Value.bool H1.out)).mono ?_
    rintro e w1 ⟨rfl, hq⟩
    go_wp2
    go_ret
    exact ⟨rfl, hq⟩
  · have h36 : s.size ≤ 36 := by have h := h1; simp only [patOk, Bool.and_eq_true, decide_eq_true_eq] at h; exact h.1
    have hR : otherF s = strOfNums (s.data.toList.map swI) := by rw [otherF, if_pos h1]; rfl
    rw [hR]
    have H1 := Lib.hid h1
    have HR := Lib.hid hR
    clear h1 hR
    go_enter Try.func36, Try.ntmps36
    go_wp2_with fail
    refine (calls_v (sPatternOk_c _ _) (congrArg Value.bool H1.out)).mono ?_
    rintro e w1 ⟨rfl, hq⟩
    have Hq := Lib.hid hq
    clear hq
    go_wp2
    go_loopw [3, 4] (fun t i wr => ∃ k : Nat, k ≤ s.size ∧ i = .int .i64 k ∧ t = .string (strOfNums ((s.data.toList.take k).map swI)) ∧ Dr w wr) (fun _ i _ => s.size - (intOf i).toNat)
    case atStart => exact ⟨0, Nat.zero_le _, rfl, rfl, Hq.out⟩
    case round =>
      obtain ⟨k, hk, rfl, rfl, hd⟩ := hrel
      have Hd := Lib.hid hd
      clear hd
      by_cases hlt : k < s.size
      · have hki : (k : Int) < (s.size : Int) := by omega
        have hx := pat_at H1.out hlt
        have hsz : (strOfNums ((s.data.toList.take k).map swI)).size = k := by rw [strOfNums_size, List.length_map, List.length_take, bytes_len]; omega
        have hex := one_of s k hlt
        have hstep : (s.data.toList.take (k + 1)).map swI = (s.data.toList.take k).map swI ++ [swI s[k]] := by rw [take_of (bytes_at s k hlt), List.map_append]; rfl
        generalize hs : strOfNums ((s.data.toList.take k).map swI) = t at hsz ⊢
        have hsz' : (t.size : Int) ≤ 36 := by omega
        rcases hx with hx | hx
        · have hx' : s[k] = 72 := UInt8.toNat_inj.1 hx
          rw [hx'] at hex
          have hoc := other_H
          rw [← hex] at hoc
          have hsw : swI s[k] = 65 := by rw [hx']; rfl
          rw [hsw] at hstep
          have Hs := Lib.hid hs
          have Hstep := Lib.hid hstep
          have Hsz := Lib.hid hsz
          have Hoc := Lib.hid hoc
          clear hs hstep hsz hoc
          clear hx hx' hex hsw
          go_wp2_with (go_at_call 55; refine (Hoc.out _).mono ?_; rintro e w2 ⟨rfl, hq2⟩)
          go_roundw
          case rel => exact ⟨k + 1, by omega, by go_num, by rw [Hstep.out, ← str_snoc' _ 65 65 rfl, Hs.out], Hd.out.trans hq2⟩
          case measure => simp [intOf]; omega
        · have hx' : s[k] = 65 := UInt8.toNat_inj.1 hx
          rw [hx'] at hex
          have hoc := other_A
          rw [← hex] at hoc
          have hsw : swI s[k] = 72 := by rw [hx']; rfl
          rw [hsw] at hstep
          have Hs := Lib.hid hs
          have Hstep := Lib.hid hstep
          have Hsz := Lib.hid hsz
          have Hoc := Lib.hid hoc
          clear hs hstep hsz hoc
          clear hx hx' hex hsw
          go_wp2_with (go_at_call 55; refine (Hoc.out _).mono ?_; rintro e w2 ⟨rfl, hq2⟩)
          go_roundw
          case rel => exact ⟨k + 1, by omega, by go_num, by rw [Hstep.out, ← str_snoc' _ 72 72 rfl, Hs.out], Hd.out.trans hq2⟩
          case measure => simp [intOf]; omega
      · obtain rfl : k = s.size := by omega
        go_wp2
        go_ret
        exact ⟨by rw [List.take_of_length_le (by rw [bytes_len]; exact Nat.le_refl _)]; rfl, Hd.out⟩
end Go.Proofs.Yteefbnadjjcpkaa
