/- Contracts for the law on ties: PointsOf (program); posts with the lengths said. -/
import Derived.Test.YtehlijpjcjegcaaTiesF
import Derived.Test.YtehlijpjcjegcaaHeadT
import Derived.Test.YtehlijpjcjegcaaSumI
import Derived.Test.YtehlijpjcjegcaaProI
import Derived.Test.YtehlijpjcjegcaaMedI
import Derived.Test.YtehlijpjcjegcaaCode
import Derived.Test.YtehlijpjcjegcaaPast
namespace Go.Proofs.Ytehlijpjcjegcaa
set_option linter.unusedVariables false
set_option linter.unusedSimpArgs false
open Go.RowKit

set_option maxHeartbeats 1000000 in
theorem iPointsOf_c (n : Nat) (A : Option Addr) (c : Nat) (rs : List Res) (w : World) (ha : Games w A rs) (hok : leagueOk n rs = true) :
    Calls Try.prog 33 #[lgv n A rs.length c] w (GivesI 3 w (pointsF n rs)) := by
  have hm60 := (league_of hok).few
  have hlc := fun W (h : Games W A rs) => iLeagueOk_c n A c rs W h (by omega)
  rw [hok] at hlc
  have hpc := fun W (h : Games W A rs) => points_c n A c rs W h hok
  obtain ⟨b0, b1⟩ := box2 w (.int .i64 (n : Int)) (.slice A rs.length c) 29
  have hbw : Below w.heap.size w (w.alloc (.cells #[.int .i64 (n : Int), .slice A rs.length c] 29)) := (Below.refl _ _).alloc (Nat.le_refl _) _
  have hg0 := ha.keep (keep_of_below hbw)
  unfold lgv at hlc hpc ⊢
  obtain ⟨m, hmm⟩ : ∃ m, rs.length = m := ⟨_, rfl⟩
  rw [hmm] at hlc hpc hbw hg0 b0 b1 hm60 ⊢
  have Ha := Lib.hid ha
  have Hlc := Lib.hid hlc
  have Hbw := Lib.hid hbw
  have Hg0 := Lib.hid hg0
  have Hmm := Lib.hid hmm
  have Hpc := Lib.hid hpc
  clear ha hlc hbw hg0 hmm hpc
  clear hok
  go_enter Try.func33, Try.ntmps33
  go_wp2_with fail
  refine (Hlc.out _ Hg0.out).mono ?_
  rintro e w1 ⟨rfl, hb⟩
  have c0 := keep_of_below hb _ _ b0
  have c1 := keep_of_below hb _ _ b1
  have Hb := Lib.hid (Hbw.out.trans (hb.mono Hbw.out.size))
  have Hg1 := Lib.hid (Ha.out.keep (keep_of_below Hb.out))
  clear hb b0 b1
  go_wp2_with fail
  refine (Hpc.out _ Hg1.out).mono ?_
  rintro e w2 ⟨B, d, rfl, ho, hb2⟩
  have hb3 := Hb.out.trans (hb2.mono Hb.out.size)
  have ho3 := ho.wide (lo' := w.heap.size) Hb.out.size (Nat.le_refl _)
  have Ho3 := Lib.hid ho3
  have Hb3 := Lib.hid hb3
  clear ho3 hb3
  clear ho hb2
  go_wp2
  go_ret
  exact ⟨B, d, rfl, Ho3.out, Hb3.out⟩

/-- A row of ints comes back, so long. -/
def GivesL (w : World) (xs : List Int) (n : Nat) (e : Ending) (w' : World) : Prop := ∃ A c, e = .returned (.slice A n c) ∧ Ints w' A xs ∧ Below w.heap.size w w'
theorem GivesI_l {w : World} {xs ys : List Int} {n : Nat} {P : Program} {f : FuncId} {args : Array Value} (h : xs.length = n) (e : ys = xs) (k : Calls P f args w (GivesI 3 w ys)) : Calls P f args w (GivesL w xs n) := by
  subst e
  exact k.mono fun e w' ⟨A, c, he, ho, hb⟩ => ⟨A, c, by rw [← h]; exact he, ho.ints, hb⟩
theorem ints_some {w : World} {A : Option Addr} {l : List Int} (h : Ints w A l) (hl : 0 < l.length) : ∃ ad, A = some ad := by
  obtain ⟨ad, e, _⟩ := h 0 _ (List.getElem?_eq_getElem hl)
  exact ⟨ad, e⟩
theorem ints_at {w : World} {ad : Addr} {l : List Int} {k : Nat} {v : Int} (h : Ints w (some ad) l) (hk : l[k]? = some v) : w.cell? (ad.add k) = some (.int .i64 v) := by
  obtain ⟨ad', e, hc⟩ := h k v hk
  injection e with e
  subst e
  exact hc
theorem small_pow {a n Q : Nat} (ha : a < n) (hn : n ≤ 6) (h : 2 ^ a = Q) : Q ≤ 32 ∧ wrap64 ((2 : Int) ^ a) = (Q : Int) ∧ IntKind.i64.wrap ((2 : Int) ^ a) = (Q : Int) := by
  have h1 : Q ≤ 2 ^ 5 := by rw [← h]; exact Nat.pow_le_pow_right (by decide) (by omega)
  have h2 : Q ≤ 32 := h1
  refine ⟨h2, pow_wrap h (by omega), ?_⟩
  have e : ((2 : Int) ^ a) = ((2 ^ a : Nat) : Int) := by rw [Int.natCast_pow]; rfl
  rw [e, h]
  exact IntWalk.i64_in _ (by omega)
theorem small_add {S Q : Nat} (h : S < 64) (hQ : Q ≤ 32) : IntKind.i64.wrap ((S : Int) + (Q : Int)) = ((S + Q : Nat) : Int) := by
  rw [IntWalk.i64_in _ (by omega)]; omega
theorem small_bit {S a u : Nat} (hS : S < 64) (hu : S / 2 ^ a = u) : u < 64 ∧ (S : Int) / 2 ^ a = (u : Int) ∧ bits .and .i64 (u : Int) 1 = ((u % 2 : Nat) : Int) := by
  have h : u < 64 := by rw [← hu]; exact Nat.lt_of_le_of_lt (Nat.div_le_self _ _) hS
  exact ⟨h, by rw [← hu]; exact shr_nat S a, and_one u (by omega)⟩
theorem odd_no {u : Nat} (h : u % 2 = 0) : ((u : Int) % 2 == 1) = false := by simp; omega
theorem odd_yes {u : Nat} (h : u % 2 = 1) : ((u : Int) % 2 == 1) = true := by simp; omega
theorem not_lt_int {a n : Nat} (h : a < n) : ¬ (a : Int) < 0 ∧ decide ((a : Int) < 0) = false ∧ decide ((n : Int) ≤ (a : Int)) = false ∧ decide (n ≤ a) = false ∧ (a : Int) < (n : Int) := by
  refine ⟨by omega, by simp, by simp; omega, by simp; omega, by omega⟩
theorem take_six {F : List Nat} {n : Nat} (h : F.length = n) (hn : n ≤ 6) (i : Nat) : ((F.take i).length : Int) ≤ 6 := by rw [List.length_take]; omega
theorem mul_bd {p s : Int} (p0 : 0 ≤ p) (p1 : p ≤ 180) (s0 : 0 ≤ s) (s1 : s ≤ 11) : 0 ≤ p * s ∧ p * s ≤ 1980 := ⟨Int.mul_nonneg p0 s0, Int.mul_le_mul p1 s1 s0 (by decide)⟩
theorem at_getD {l : List Int} {k : Nat} (h : k < l.length) : l[k]? = some (l.getD k 0) := by rw [List.getD_eq_getElem?_getD, List.getElem?_eq_getElem h]; rfl
end Go.Proofs.Ytehlijpjcjegcaa
