
/- Contracts: when a pattern is valid, and its breaks (program and reference). -/
import Derived.Test.YtfkccgblgjpalaaGreatClubs
import Derived.Lib.Strings
import Derived.Lib.Slices
import Derived.Lib.Walk
import Derived.Lib.Bytealg
namespace Go.Proofs.YtfkccgblgjpalaaGreat
open Go.RowKit

def isHA (c : UInt8) : Bool := c == 72 || c == 65
def patOk (s : ByteArray) : Bool := decide (s.size ≤ 36) && s.data.toList.all isHA
theorem bytes_at (s : ByteArray) (k : Nat) (h : k < s.size) : s.data.toList[k]? = some s[k] := by
  rw [List.getElem?_eq_getElem (by simpa using h)]; rfl
theorem bytes_len (s : ByteArray) : s.data.toList.length = s.size := by simp
theorem u8_eq (c : UInt8) (n : Nat) (hn : n < 256) : (((c.toNat : Int) == (n : Int)) = true) ↔ c = UInt8.ofNat n := by
  rw [beq_iff_eq]
  constructor
  · intro h; apply UInt8.toNat_inj.1; rw [UInt8.toNat_ofNat']; omega
  · intro h; rw [h, UInt8.toNat_ofNat']; omega
theorem isHA_iff (c : UInt8) : isHA c = true ↔ (c.toNat = 72 ∨ c.toNat = 65) := by
  unfold isHA
  rw [Bool.or_eq_true, beq_iff_eq, beq_iff_eq]
  constructor
  · rintro (rfl | rfl)
    · exact .inl rfl
    · exact .inr rfl
  · rintro (h | h)
    · exact .inl (UInt8.toNat_inj.1 h)
    · exact .inr (UInt8.toNat_inj.1 h)

set_option maxHeartbeats 1000000 in
set_option maxRecDepth 100000 in
theorem count_c (s : ByteArray) (c : UInt8) (w : World) : Calls Tryz.prog 55 #[.string s, .string ⟨#[c]⟩] w (Quiet w (.int .i64 (Lib.countByte s.data.toList c))) := by
  go_enter Tryz.func55, Tryz.ntmps55
  go_wp2
  rw [run_callFunc_extern Tryz.func72 (by kernel_rfl) (by kernel_rfl) (by kernel_rfl) (e := Extern.BytealgCount.count) (by kernel_rfl), Lib.run_countString]
  simp only [Result.andThen]
  rw [Oper.upon_value]
  go_wp2
  go_ret
  exact ⟨rfl, Dr.refl _⟩

theorem count_two : ∀ l : List UInt8, (Lib.countByte l 72 + Lib.countByte l 65 ≤ l.length) ∧ (Lib.countByte l 72 + Lib.countByte l 65 = l.length ↔ l.all isHA = true)
  | [] => by simp [Lib.countByte]
  | x :: l => by
    obtain ⟨h1, h2⟩ := count_two l
    simp only [Lib.countByte, List.count_cons, List.length_cons, List.all_cons, Bool.and_eq_true] at *
    rw [← h2]
    unfold isHA
    by_cases e1 : x = 72
    · subst e1; simp; omega
    · by_cases e2 : x = 65
      · subst e2; simp; omega
      · have f1 : (x == 72) = false := by simpa using e1
        have f2 : (x == 65) = false := by simpa using e2
        simp only [f1, f2]; simp; omega

set_option maxHeartbeats 1000000 in
theorem iPatternOk_c (s : ByteArray) (w : World) : Calls Tryz.prog 26 #[.string s] w (Quiet w (.bool (patOk s))) := by
  generalize hR : patOk s = R
  have HR := Lib.hid hR
  clear hR
  by_cases h1 : s.size ≤ 36
  · obtain ⟨a, ha⟩ : ∃ a : Nat, Lib.countByte s.data.toList 72 = a := ⟨_, rfl⟩
    obtain ⟨b, hb⟩ : ∃ b : Nat, Lib.countByte s.data.toList 65 = b := ⟨_, rfl⟩
    have hct := count_two s.data.toList
    rw [ha, hb, bytes_len] at hct
    have HS : Hid (decide (a + b = s.size) = R) := Lib.hid (by rw [← HR.out, patOk, decide_eq_true h1, Bool.true_and, Bool.eq_iff_iff, decide_eq_true_iff]; exact hct.2)
    have hab := hct.1
    have wab : IntKind.i64.wrap ((a : Int) + (b : Int)) = (a : Int) + (b : Int) := IntWalk.i64_in _ (by omega)
    have hA : ∀ W, Calls Tryz.prog 55 #[.string s, .string ⟨#[72]⟩] W (Quiet W (.int .i64 a)) := fun W => by rw [← ha]; exact count_c s 72 W
    have hB : ∀ W, Calls Tryz.prog 55 #[.string s, .string ⟨#[65]⟩] W (Quiet W (.int .i64 b)) := fun W => by rw [← hb]; exact count_c s 65 W
    have hd36 : decide ((s.size : Int) ≤ 36) = true := by rw [decide_eq_true_iff]; omega
    have Ha := Lib.hid ha
    have Hb := Lib.hid hb
    have Hct := Lib.hid hct
    have HA := Lib.hid hA
    have HB := Lib.hid hB
    clear ha hb hct hA hB
    go_enter Tryz.func26, Tryz.ntmps26
    go_wp2_with fail
    refine (HA.out _).mono ?_
    rintro e w1 ⟨rfl, hq⟩
    have Hq := Lib.hid hq
    clear hq
    go_wp2_with fail
    refine (HB.out _).mono ?_
    rintro e w2 ⟨rfl, hq2⟩
    go_wp2
    go_ret
    exact ⟨ret_bool (by rw [← HS.out, Bool.eq_iff_iff, beq_iff_eq, decide_eq_true_iff]; omega), Hq.out.trans hq2⟩
  · have HS : Hid (false = R) := Lib.hid (by rw [← HR.out]; simp [patOk, h1])
    have hd36 : decide ((s.size : Int) ≤ 36) = false := by rw [decide_eq_false_iff_not]; omega
    go_enter Tryz.func26, Tryz.ntmps26
    go_wp2
    go_ret
    exact ⟨ret_bool HS.out, Dr.refl _⟩

/-- The places with the same letter as before, in a row behind the letter c. -/
def brkP : UInt8 → Nat → List UInt8 → Nat
  | _, n, [] => n
  | c, n, x :: r => brkP x (if x = c then n + 1 else n) r
theorem brk_le : ∀ (r : List UInt8) (c : UInt8) (n : Nat), brkP c n r ≤ n + r.length
  | [], c, n => by simp [brkP]
  | x :: r, c, n => by
    rw [brkP, List.length_cons]
    by_cases h : x = c
    · rw [if_pos h]; have := brk_le r x (n + 1); omega
    · rw [if_neg h]; have := brk_le r x n; omega
def patBreaks (s : ByteArray) : Int := if patOk s = true then (match s.data.toList with | [] => 0 | c :: r => ((brkP c 0 r : Nat) : Int)) else -1

set_option maxHeartbeats 1000000 in
theorem ICountPatternBreaks_c (s : ByteArray) (w : World) : Calls Tryz.prog 20 #[.string s] w (Quiet w (.int .i64 (patBreaks s))) := by
  generalize hR : patBreaks s = R
  have HR := Lib.hid hR
  clear hR
  cases h1 : patOk s
  · have HS : Hid (-1 = R) := Lib.hid (by rw [← HR.out]; simp [patBreaks, h1])
    have H1 := Lib.hid h1
    clear h1
    go_enter Tryz.func20, Tryz.ntmps20
    go_wp2_with fail
    refine (calls_v (iPatternOk_c _ _) (congrArg Value.bool H1.out)).mono ?_
    rintro e w1 ⟨rfl, hq⟩
    go_wp2
    go_ret
    exact ⟨ret_int HS.out, hq⟩
  · have h36 : s.size ≤ 36 := by simp only [patOk, Bool.and_eq_true, decide_eq_true_eq] at h1; exact h1.1
    have HS : Hid ((match s.data.toList with | [] => 0 | c :: r => ((brkP c 0 r : Nat) : Int)) = R) := Lib.hid (by rw [← HR.out, patBreaks, if_pos h1])
    have H1 := Lib.hid h1
    clear h1
    go_enter Tryz.func20, Tryz.ntmps20
    go_wp2_with fail
    refine (calls_v (iPatternOk_c _ _) (congrArg Value.bool H1.out)).mono ?_
    rintro e w1 ⟨rfl, hq⟩
    have Hq := Lib.hid hq
    clear hq
    go_wp2
    go_loopw [4, 3] (fun i m wr => ∃ k n : Nat, 1 ≤ k ∧ k ≤ max s.size 1 ∧ i = .int .i64 k ∧ m = .int .i64 n ∧ n ≤ k ∧ (∀ c, s.data.toList[k - 1]? = some c → ((brkP c n (s.data.toList.drop k) : Nat) : Int) = R) ∧ (s.size = 0 → (n : Int) = R) ∧ Dr w wr) (fun i _ _ => s.size - (intOf i).toNat)
    case atStart =>
      refine ⟨1, 0, Nat.le_refl _, by omega, rfl, rfl, by omega, fun c hc => ?_, fun h0 => ?_, Hq.out⟩
      · have := HS.out
        cases hl : s.data.toList with
        | nil => rw [hl] at hc; simp at hc
        | cons x r => rw [hl] at hc this; simp at hc; subst hc; simpa using this
      · have := HS.out
        have hl : s.data.toList = [] := List.eq_nil_of_length_eq_zero (by rw [bytes_len]; exact h0)
        rw [hl] at this; exact this
    case round =>
      clear HS
      obtain ⟨k, n, hk1, hk, rfl, rfl, hn, hS, hS0, hd⟩ := hrel
      obtain ⟨p, hp⟩ : ∃ p, k = p + 1 := ⟨k - 1, by omega⟩
      have hpk : p < k := by omega
      have hkp : k ≤ p + 1 := by omega
      have wk : IntKind.i64.wrap ((k : Int) - 1) = (p : Int) := by rw [IntWalk.i64_in _ (by omega)]; omega
      have HS := Lib.hid hS
      have HS0 := Lib.hid hS0
      have Hd := Lib.hid hd
      have Hp := Lib.hid hp
      clear hS hS0 hd hp
      by_cases hlt : k < s.size
      · have hlp : p < s.size := by omega
        have hki : (k : Int) < (s.size : Int) := by omega
        have hpi : (p : Int) < (s.size : Int) := by omega
        have HS1 : Hid (((brkP s[k] (if s[k] = s[p] then n + 1 else n) (s.data.toList.drop (k + 1)) : Nat) : Int) = R) := Lib.hid (by
          have := HS.out s[p] (by rw [Hp.out]; exact bytes_at s p hlp)
          rwa [drop_of (bytes_at s k hlt), brkP] at this)
        have HN : Hid (∀ c, s.data.toList[k + 1 - 1]? = some c → c = s[k]) := Lib.hid (fun c hc => by rw [show k + 1 - 1 = k from rfl, bytes_at s k hlt] at hc; injection hc with hc; exact hc.symm)
        by_cases he : s[k] = s[p]
        · have he' : ((s[k].toNat : Int) == (s[p].toNat : Int)) = true := by rw [he]; simp
          have HS2 : Hid (((brkP s[k] (n + 1) (s.data.toList.drop (k + 1)) : Nat) : Int) = R) := Lib.hid (by have := HS1.out; rwa [if_pos he] at this)
          have He := Lib.hid he
          clear he
          go_wp2
          go_quiet (fail)
          go_wp2
          go_roundw
          case rel => exact ⟨k + 1, n + 1, by omega, by omega, by go_num, by go_num, by omega, fun c hc => by rw [HN.out c hc]; exact HS2.out, fun h0 => by omega, Hd.out.dN _⟩
          case measure => simp [intOf]; omega
        · have he' : ((s[k].toNat : Int) == (s[p].toNat : Int)) = false := by rw [beq_eq_false_iff_ne]; intro h; exact he (UInt8.toNat_inj.1 (by omega))
          have HS2 : Hid (((brkP s[k] n (s.data.toList.drop (k + 1)) : Nat) : Int) = R) := Lib.hid (by have := HS1.out; rwa [if_neg he] at this)
          have He := Lib.hid he
          clear he
          go_wp2
          go_quiet (fail)
          go_wp2
          go_roundw
          case rel => exact ⟨k + 1, n, by omega, by omega, by go_num, by go_num, by omega, fun c hc => by rw [HN.out c hc]; exact HS2.out, fun h0 => by omega, Hd.out.dN _⟩
          case measure => simp [intOf]; omega
      · have HS1 : Hid ((n : Int) = R) := Lib.hid (by
          rcases Nat.eq_zero_or_pos s.size with h0 | h0
          · exact HS0.out h0
          · have hps : p + 1 = s.size := by omega
            have hlp : p < s.size := by omega
            have := HS.out s[p] (by rw [Hp.out]; exact bytes_at s p hlp)
            rwa [List.drop_of_length_le (by rw [bytes_len]; omega), brkP] at this)
        go_wp2
        go_ret
        exact ⟨ret_int HS1.out, Hd.out⟩

end Go.Proofs.YtfkccgblgjpalaaGreat
