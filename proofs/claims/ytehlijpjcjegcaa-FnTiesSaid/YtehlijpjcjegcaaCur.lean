/- Contracts: the reference's cursor over some bytes: a number in its range each time, the cursor stays a cursor. -/
import Derived.Test.YtehlijpjcjegcaaBase3
import Derived.Laws.BitsAllLaws
import Derived.Laws.BitsLemmas
namespace Go.Proofs.Ytehlijpjcjegcaa
set_option linter.unusedSimpArgs false
set_option linter.unusedVariables false
open Go.RowKit

/-- Some bytes. -/
def Byt (w : World) (A : Option Addr) (m : Nat) : Prop := ∀ k, k < m → ∃ (ad : Addr) (v : Int), A = some ad ∧ w.cell? (ad.add k) = some (.int .u8 v) ∧ 0 ≤ v ∧ v ≤ 255
theorem Byt.keep {w w' : World} {A : Option Addr} {m : Nat} (h : Byt w A m) (k : Keep w w') : Byt w' A m := fun i hi => by
  obtain ⟨ad, v, e, hc, h0, h1⟩ := h i hi
  exact ⟨ad, v, e, k _ _ hc, h0, h1⟩
/-- A cursor over them, in block g. -/
def Cur (w : World) (g : Nat) (A : Option Addr) (m c : Nat) : Prop :=
  ∃ (i : Nat) (h : Int), i ≤ m ∧ Own 92 g (g + 1) w (some ⟨g, 0, none⟩) 3 [.slice A m c, .int .i64 (i : Int), .int .i64 h]
theorem Cur.below {w w' : World} {g : Nat} {A : Option Addr} {m c : Nat} (h : Cur w g A m c) (k : Below (g + 1) w w') : Cur w' g A m c := by
  obtain ⟨i, x, hi, ho⟩ := h
  exact ⟨i, x, hi, ho.below k⟩
theorem and255 (z : Int) : 0 ≤ bits .and .i64 z 255 ∧ bits .and .i64 z 255 ≤ 255 := by
  show 0 ≤ IntKind.i64.wrap ((((BitVec.ofInt 64 z) &&& (BitVec.ofInt 64 255)).toNat : Nat) : Int) ∧ IntKind.i64.wrap ((((BitVec.ofInt 64 z) &&& (BitVec.ofInt 64 255)).toNat : Nat) : Int) ≤ 255
  have h1 : ((BitVec.ofInt 64 z) &&& (BitVec.ofInt 64 255)).toNat ≤ 255 := by
    rw [BitVec.toNat_and]
    exact Nat.le_trans Nat.and_le_right (by decide)
  rw [IntWalk.i64_in _ (by omega)]
  omega
def AByte (w : World) (g : Nat) (A : Option Addr) (m c : Nat) (b : Int) (e : Ending) (w' : World) : Prop := ∃ x : Int, e = .returned (.int .i64 x) ∧ 0 ≤ x ∧ x ≤ b ∧ Cur w' g A m c ∧ Only g (g + 1) w w'

set_option maxRecDepth 100000 in
set_option maxHeartbeats 4000000 in
theorem l01Byte_c (g : Nat) (A : Option Addr) (m c : Nat) (w : World) (hc : Cur w g A m c) (hb : Byt w A m) (hA : ∀ a, A = some a → 0 < m → a.block < g) (hm : m ≤ 1048576) :
    Calls Try.prog 73 #[.pointer (some ⟨g, 0, none⟩)] w (AByte w g A m c 255) := by
  obtain ⟨i, h, hi, ho⟩ := hc
  obtain ⟨g0, e0, _, _, c0, f0⟩ := ho.at_ (k := 0) rfl
  obtain ⟨g1, e1, _, _, c1, f1⟩ := ho.at_ (k := 1) rfl
  obtain ⟨g2, e2, _, _, c2, f2⟩ := ho.at_ (k := 2) rfl
  obtain rfl : g = g0 := by injection e0 with e; injection e
  obtain rfl : g = g1 := by injection e1 with e; injection e
  obtain rfl : g = g2 := by injection e2 with e; injection e
  by_cases hlt : i < m
  · have hlti : (i : Int) < (m : Int) := by omega
    obtain ⟨ad, v, rfl, hcv, hv0, hv1⟩ := hb i hlt
    have hag : ad.block < g := hA ad rfl (by omega)
    have hbv : ∀ u, (w.setCell ⟨g, 2, none⟩ u).cell? (ad.add i) = some (.int .u8 v) := fun u => by
      rw [World.cell?_setCell_other _ _ _ _ (fun e => by
        have h1 : (ad.add i).block = ad.block := by unfold Addr.add; split <;> rfl
        have h2 := congrArg Addr.block e
        simp only at h2
        omega)]
      exact hcv
    have w1 : IntKind.i64.wrap ((i : Int) + 1) = (i : Int) + 1 := IntWalk.i64_in _ (by omega)
    have Ho := Lib.hid ho
    clear ho
    clear e0 e1 e2 hA hb
    go_enter Try.func73, Try.ntmps73
    go_wp2
    go_quiet (fail)
    go_wp2
    go_quiet (fail)
    go_wp2
    go_quiet (fail)
    go_wp2
    go_ret
    exact ⟨_, rfl, (and255 _).1, (and255 _).2, ⟨i + 1, _, hlt, ((Ho.out.set_ 2 _).below (below_drewN _ _ _)).set_ 1 _⟩, ((((Only.refl _ _ _).setCell (Nat.le_refl _) (Nat.lt_succ_self _) _).drewN _).setCell (Nat.le_refl _) (Nat.lt_succ_self _) _)⟩
  · have hlti : ¬ (i : Int) < (m : Int) := by omega
    have Ho := Lib.hid ho
    clear ho
    clear e0 e1 e2 hA hb
    go_enter Try.func73, Try.ntmps73
    go_wp2
    go_quiet (fail)
    go_wp2
    go_quiet (fail)
    go_wp2
    go_ret
    exact ⟨_, rfl, (and255 _).1, (and255 _).2, ⟨i, _, hi, ((Ho.out.set_ 2 _).below (below_drewN _ _ _)).below (below_drewN _ _ _)⟩, (((Only.refl _ _ _).setCell (Nat.le_refl _) (Nat.lt_succ_self _) _).drewN _).drewN _⟩

/-! ### Numbers below a bound -/
theorem Byt.only {lo hi : Nat} {w w' : World} {A : Option Addr} {m : Nat} (h : Byt w A m) (k : Only lo hi w w') (hA : ∀ a, A = some a → a.block < lo) : Byt w' A m := fun i hi => by
  obtain ⟨ad, v, e, hc, h0, h1⟩ := h i hi
  refine ⟨ad, v, e, ?_, h0, h1⟩
  have hb := block_lt_of_cell hc
  have h2 := k.block (ad.add i).block hb (.inl (by have := hA ad e; unfold Addr.add; split <;> exact this))
  unfold World.cell? at hc ⊢
  rw [h2]; exact hc
set_option maxHeartbeats 1000000 in
theorem l01Below_c (g : Nat) (A : Option Addr) (m c : Nat) (n : Int) (w : World) (hc : Cur w g A m c) (hb : Byt w A m) (hA : ∀ a, A = some a → 0 < m → a.block < g) (hm : m ≤ 1048576) (h1 : 1 ≤ n) (h2 : n ≤ 256) :
    Calls Try.prog 93 #[.pointer (some ⟨g, 0, none⟩), .int .i64 n] w (AByte w g A m c (n - 1)) := by
  obtain ⟨n, rfl⟩ := Int.eq_ofNat_of_zero_le (show 0 ≤ n by omega)
  have hby := l01Byte_c g A m c w hc hb hA hm
  have hn0 : ((n : Int) == 0) = false := by simp; omega
  have hnn : ¬ (n : Int) = 0 := by omega
  have hn1 : ¬ (n : Int) ≤ 0 := by omega
  have Hby := Lib.hid hby
  have Hc := Lib.hid hc
  have Hb := Lib.hid hb
  have HA := Lib.hid hA
  clear hby hc hb hA
  go_enter Try.func93, Try.ntmps93
  go_wp2_with fail
  refine Hby.out.mono ?_
  rintro e w1 ⟨x, rfl, hx0, hx1, hc1, ho1⟩
  obtain ⟨x, rfl⟩ := Int.eq_ofNat_of_zero_le hx0
  obtain ⟨q, hq⟩ : ∃ q, x % n = q := ⟨_, rfl⟩
  have hqn : q < n := by rw [← hq]; exact Nat.mod_lt _ (by omega)
  have e1 : (x : Int).tmod (n : Int) = (q : Int) := by rw [Int.tmod_eq_emod_of_nonneg (by omega), ← hq, Int.natCast_emod]
  have Hc1 := Lib.hid hc1
  have Ho1 := Lib.hid ho1
  have Hq := Lib.hid hq
  clear hc1 ho1 hq
  go_wp2
  go_ret
  exact ⟨(q : Int), rfl, by omega, by omega, Hc1.out, Ho1.out⟩
/-- Some truth value comes back. -/
def ABool (w : World) (g : Nat) (A : Option Addr) (m c : Nat) (e : Ending) (w' : World) : Prop := ∃ b : Bool, e = .returned (.bool b) ∧ Cur w' g A m c ∧ Only g (g + 1) w w'
/-- One of a list's numbers comes back. -/
def APick (w : World) (g : Nat) (A : Option Addr) (m c : Nat) (l : List Int) (e : Ending) (w' : World) : Prop := ∃ x : Int, e = .returned (.int .i64 x) ∧ x ∈ l ∧ Cur w' g A m c ∧ Only g (g + 1) w w'
end Go.Proofs.Ytehlijpjcjegcaa
