/- Contracts: new cursors, a number out of the code. -/
import Derived.Test.YtehlijpjcjegcaaCur
namespace Go.Proofs.Ytehlijpjcjegcaa
set_option linter.unusedSimpArgs false
set_option linter.unusedVariables false
open Go.RowKit

/-- A new cursor comes back. -/
def ACur (w : World) (A : Option Addr) (m c : Nat) (e : Ending) (w' : World) : Prop := ∃ g : Nat, e = .returned (.pointer (some ⟨g, 0, none⟩)) ∧ w.heap.size ≤ g ∧ g < w'.heap.size ∧ Cur w' g A m c ∧ Below w.heap.size w w'
theorem own3 (T : TypeId) (w : World) (x y z : Value) : Own T w.heap.size (w.heap.size + 1) (w.alloc (.cells #[x, y, z] T)) (some ⟨w.heap.size, 0, none⟩) 3 [x, y, z] :=
  ⟨by simp, by unfold maxLen; omega, .inr ⟨w.heap.size, _, rfl, Nat.le_refl _, Nat.lt_succ_self _, heap_alloc_new w _, rfl, rfl⟩⟩
set_option maxHeartbeats 1000000 in
theorem l01New_c (A : Option Addr) (m c : Nat) (w : World) (hb : Byt w A m) (hm : m ≤ 1048576) :
    Calls Try.prog 94 #[.slice A m c] w (ACur w A m c) := by
  have Hb := Lib.hid hb
  clear hb
  go_enter Try.func94, Try.ntmps94
  go_wp2
  go_loopw [4, 3] (fun i h wr => ∃ (k : Nat) (x : Int), k ≤ m ∧ i = .int .i64 k ∧ h = .int .i64 x ∧ Dr w wr) (fun i _ _ => m - (intOf i).toNat)
  case atStart => exact ⟨0, _, Nat.zero_le _, rfl, rfl, Dr.refl _⟩
  case round =>
    obtain ⟨k, x, hk, rfl, rfl, hd⟩ := hrel
    have Hd := Lib.hid hd
    clear hd
    by_cases hlt : k < m
    · have hki : (k : Int) < (m : Int) := by omega
      by_cases h4 : k < 4000
      · have h4i : (k : Int) < 4000 := by omega
        obtain ⟨ad, v, rfl, hcv, hv0, hv1⟩ := (Hb.out.keep Hd.out.keep) k hlt
        go_wp2
        go_roundw
        case rel => exact ⟨k + 1, _, by omega, by go_num, rfl, Hd.out⟩
        case measure => simp [intOf]; omega
      · have h4i : ¬ (k : Int) < 4000 := by omega
        go_wp2
        go_ret
        have hsz := (Hd.out.below 0).size
        exact ⟨wr.heap.size, rfl, hsz, by simp, ⟨0, _, Nat.zero_le _, own3 _ _ _ _ _⟩, (Hd.out.below _).alloc hsz _⟩
    · have hki : ¬ (k : Int) < (m : Int) := by omega
      go_wp2
      go_ret
      have hsz := (Hd.out.below 0).size
      exact ⟨wr.heap.size, rfl, hsz, by simp, ⟨0, _, Nat.zero_le _, own3 _ _ _ _ _⟩, (Hd.out.below _).alloc hsz _⟩
theorem byt_old {w : World} {A : Option Addr} {m : Nat} (h : Byt w A m) (hm : 0 < m) : ∀ a, A = some a → a.block < w.heap.size := fun a e => by
  obtain ⟨ad, v, e2, hc, _, _⟩ := h 0 hm
  have h1 := block_lt_of_cell hc
  rw [e] at e2
  injection e2 with e2
  subst e2
  have h2 : (a.add 0).block = a.block := by unfold Addr.add; split <;> rfl
  omega
theorem only_new {g : Nat} {w v w' : World} (h : Only g (g + 1) v w') (hb : Below w.heap.size w v) (hg : w.heap.size ≤ g) : Below w.heap.size w w' :=
  hb.trans (below_of_only h hg hb.size)
set_option maxHeartbeats 1000000 in
theorem l32New_c (A : Option Addr) (m c n : Nat) (w : World) (hb : Byt w A m) (hA : ∀ a, A = some a → 0 < m → a.block < w.heap.size) (hm : m ≤ 1048576) (hn : n ≤ 1000) :
    Calls Try.prog 72 #[.slice A m c, .int .i64 (n : Int)] w (ACur w A m c) := by
  have hnc := l01New_c A m c w hb hm
  have Hb := Lib.hid hb
  have HA := Lib.hid hA
  have Hnc := Lib.hid hnc
  clear hb hA hnc
  go_enter Try.func72, Try.ntmps72
  go_wp2_with fail
  refine (Hnc.out).mono ?_
  rintro e w1 ⟨g, rfl, hg1, hg2, hc, hb1⟩
  have Hb1 := Lib.hid hb1
  have Hc := Lib.hid hc
  clear hc hb1
  go_wp2
  go_loopw [6] (fun i wr => ∃ (k : Nat), k ≤ n ∧ i = .int .i64 k ∧ Cur wr g A m c ∧ Below w.heap.size w wr ∧ g < wr.heap.size) (fun i _ => n - (intOf i).toNat)
  case atStart => exact ⟨0, Nat.zero_le _, rfl, Hc.out, Hb1.out, hg2⟩
  case round =>
    clear Hc Hb1
    obtain ⟨k, hk, rfl, hc, hd, hz⟩ := hrel
    have Hc := Lib.hid hc
    have Hd := Lib.hid hd
    clear hc hd
    by_cases hlt : k < n
    · have hki : (k : Int) < (n : Int) := by omega
      have hby := l01Byte_c g A m c wr Hc.out (Hb.out.keep (keep_of_below Hd.out)) (fun a e h0 => Nat.lt_of_lt_of_le (HA.out a e h0) hg1) hm
      have Hby := Lib.hid hby
      clear hby
      go_wp2_with fail
      refine Hby.out.mono ?_
      rintro e w2 ⟨x, rfl, hx0, hx1, hc2, ho2⟩
      have hd2 := only_new ho2 Hd.out hg1
      have hz2 := ho2.size
      have Hc2 := Lib.hid hc2
      have Hd2 := Lib.hid hd2
      clear hc2 hd2
      clear ho2
      go_wp2
      go_roundw
      case rel => exact ⟨k + 1, by omega, by go_num, Hc2.out, Hd2.out, by omega⟩
      case measure => simp [intOf]; omega
    · obtain rfl : k = n := by omega
      go_wp2
      go_ret
      exact ⟨g, rfl, hg1, hz, Hc.out, Hd.out⟩
/-- Some number from 0 up to b comes back. -/
def ANum (w : World) (b : Int) (e : Ending) (w' : World) : Prop := ∃ x : Int, e = .returned (.int .i64 x) ∧ 0 ≤ x ∧ x ≤ b ∧ Below w.heap.size w w'
set_option maxHeartbeats 1000000 in
theorem makeNum_c (A : Option Addr) (m c n : Nat) (w : World) (hb : Byt w A m) (hA : ∀ a, A = some a → 0 < m → a.block < w.heap.size) (hm : m ≤ 1048576) (hn : n ≤ 1000) :
    Calls Try.prog 35 #[.slice A m c, .int .i64 (n : Int)] w (ANum w 65535) := by
  have hnc := l32New_c A m c n w hb hA hm hn
  have Hb := Lib.hid hb
  have HA := Lib.hid hA
  have Hnc := Lib.hid hnc
  clear hb hA hnc
  go_enter Try.func35, Try.ntmps35
  go_wp2_with fail
  refine (Hnc.out).mono ?_
  rintro e w1 ⟨g, rfl, hg1, hg2, hc, hb1⟩
  have hby := l01Byte_c g A m c w1 hc (Hb.out.keep (keep_of_below hb1)) (fun a e h0 => Nat.lt_of_lt_of_le (HA.out a e h0) hg1) hm
  have Hb1 := Lib.hid hb1
  have Hby := Lib.hid hby
  clear hby
  clear hc hb1
  go_wp2_with fail
  refine (Hby.out).mono ?_
  rintro e w2 ⟨x, rfl, hx0, hx1, hc2, ho2⟩
  have hd2 := only_new ho2 Hb1.out hg1
  have hby2 := l01Byte_c g A m c w2 hc2 (Hb.out.keep (keep_of_below hd2)) (fun a e h0 => Nat.lt_of_lt_of_le (HA.out a e h0) hg1) hm
  have Hby2 := Lib.hid hby2
  have Hd2 := Lib.hid hd2
  clear hby2 hd2
  clear hc2 ho2
  go_wp2_with fail
  refine (Hby2.out).mono ?_
  rintro e w3 ⟨y, rfl, hy0, hy1, hc3, ho3⟩
  have hd3 := only_new ho3 Hd2.out hg1
  have e1 : IntKind.i64.wrap (x * 256) = x * 256 := IntWalk.i64_in _ (by omega)
  have e2 : IntKind.i64.wrap (x * 256 + y) = x * 256 + y := IntWalk.i64_in _ (by omega)
  have Hd3 := Lib.hid hd3
  clear hd3
  go_wp2
  go_ret
  exact ⟨x * 256 + y, rfl, by omega, by omega, Hd3.out⟩
end Go.Proofs.Ytehlijpjcjegcaa
