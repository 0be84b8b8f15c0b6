/- Contracts: sums over what results add, club by club: the closures, a sum, OpponentSums and WeightedSums (program). -/
import Derived.Test.YtehlijpjcjegcaaAdd
namespace Go.Proofs.Ytehlijpjcjegcaa
set_option linter.unusedSimpArgs false
set_option linter.unusedVariables false
open Go.RowKit

set_option maxHeartbeats 1000000 in
theorem addends_no (cl : Nat) (n : Int) (A : Option Addr) (c : Nat) (rs : List Res) (w : World) (ha : Games w A rs) (hm : rs.length ≤ 1048576) (hok : leagueOk n rs = false) :
    Calls Try.prog 50 #[lgv n A rs.length c, .func (.func cl) #[] #[]] w (Gives w (.slice none 0 0)) := by
  have hlc := fun W (h : Games W A rs) => iLeagueOk_c n A c rs W h hm
  rw [hok] at hlc
  unfold lgv at hlc ⊢
  obtain ⟨b0, b1⟩ := box2 w (.int .i64 n) (.slice A rs.length c) 29
  have hb1 : Below w.heap.size w (w.alloc (.cells #[.int .i64 n, .slice A rs.length c] 29)) := (Below.refl _ _).alloc (Nat.le_refl _) _
  have Ha := Lib.hid ha
  have Hlc := Lib.hid hlc
  have Hb1 := Lib.hid hb1
  clear ha hlc hb1
  go_enter Try.func50, Try.ntmps50
  go_wp2_with fail
  refine (Hlc.out _ (Ha.out.keep (keep_of_below Hb1.out))).mono ?_
  rintro e w1 ⟨rfl, hb⟩
  go_wp2
  go_ret
  exact ⟨rfl, Hb1.out.trans (hb.mono Hb1.out.size)⟩

/-! ### A sum -/
theorem sum_bd {b : Int} : ∀ (xs : List Int), (∀ x ∈ xs, 0 ≤ x ∧ x ≤ b) → 0 ≤ xs.sum ∧ xs.sum ≤ b * (xs.length : Int)
  | [], _ => by simp
  | x :: r, h => by
    have h1 := h x (by simp)
    have h2 := sum_bd r (fun y hy => h y (by simp [hy]))
    rw [List.sum_cons, List.length_cons, Int.natCast_add, Int.mul_add]
    omega
theorem sum_snoc (xs : List Int) (u : Int) : (xs ++ [u]).sum = xs.sum + u := by simp
set_option maxHeartbeats 1000000 in
theorem sumOf_c (A : Option Addr) (c : Nat) (xs : List Int) (w : World) (ha : Ints w A xs) (hl : xs.length ≤ 1000) (hb : ∀ x ∈ xs, 0 ≤ x ∧ x ≤ 100000) :
    Calls Try.prog 53 #[.slice A xs.length c] w (Quiet w (.int .i64 xs.sum)) := by
  generalize hR : xs.sum = R
  have HR := Lib.hid hR
  clear hR
  obtain ⟨n, hn⟩ : ∃ n, xs.length = n := ⟨_, rfl⟩
  rw [hn] at hl ⊢
  have Ha := Lib.hid ha
  have Hb := Lib.hid hb
  have Hn := Lib.hid hn
  clear ha hb hn
  go_enter Try.func53, Try.ntmps53
  go_wp2
  go_loopw [8, 3] (fun i s wr => ∃ (k : Nat) (z : Int), k ≤ n ∧ i = .int .i64 k ∧ s = .int .i64 z ∧ 0 ≤ z ∧ z ≤ 100000 * (k : Int) ∧ z + (xs.drop k).sum = R ∧ Dr w wr) (fun i _ _ => n - (intOf i).toNat)
  case atStart => exact ⟨0, 0, Nat.zero_le _, rfl, rfl, by omega, by omega, by simpa using HR.out, Dr.refl _⟩
  case round =>
    obtain ⟨k, z, hk, rfl, rfl, hz0, hz1, hS, hd⟩ := hrel
    have HS := Lib.hid hS
    have Hd := Lib.hid hd
    clear hS hd
    by_cases hlt : k < n
    · obtain ⟨v, hv⟩ := some_of (l := xs) (k := k) (by rw [Hn.out]; exact hlt)
      obtain ⟨hv0, hv1⟩ := Hb.out v (List.mem_of_getElem? hv)
      obtain ⟨ad, rfl, hcv⟩ := (Ha.out.keep Hd.out.keep) k v hv
      have HS1 : Hid (z + v + (xs.drop (k + 1)).sum = R) := Lib.hid (by have := HS.out; rw [drop_of hv, List.sum_cons] at this; omega)
      have e2 : IntKind.i64.wrap (z + v) = z + v := IntWalk.i64_in _ (by omega)
      have Hv := Lib.hid hv
      clear hv
      clear HS
      go_wp2
      go_roundw
      case rel => exact ⟨k + 1, z + v, by omega, by go_num, by go_num, by omega, by omega, HS1.out, Hd.out⟩
      case measure => simp [intOf]; omega
    · obtain rfl : k = n := by omega
      have HS1 : Hid (z = R) := Lib.hid (by have := HS.out; rw [drop_end (l := xs) (by rw [Hn.out]; exact Nat.le_refl _)] at this; simpa using this)
      go_wp2
      go_ret
      exact ⟨ret_int HS1.out, Hd.out⟩

/-! ### The closures -/
def fOpp (_ : Res) (_ p : Int) : Int := p
def fWei (r : Res) (k p : Int) : Int := p * outF r.h r.g r.t k
def fPro (r : Res) (k _ : Int) : Int := pts3 (outF r.h r.g r.t k)
theorem opp1_c (W : World) (r : Res) (k p : Int) : Calls Try.prog 55 #[.agg #[.int .i64 r.h, .int .i64 r.a, .int .i64 r.g, .int .i64 r.t], .int .i64 k, .int .i64 p] W (Gives W (.int .i64 (fOpp r k p))) := by
  unfold fOpp
  go_enter Try.func55, Try.ntmps55
  go_wp2
  go_ret
  exact ⟨rfl, (Below.refl _ _).alloc (Nat.le_refl _) _⟩
theorem med1_c (W : World) (r : Res) (k p : Int) : Calls Try.prog 58 #[.agg #[.int .i64 r.h, .int .i64 r.a, .int .i64 r.g, .int .i64 r.t], .int .i64 k, .int .i64 p] W (Gives W (.int .i64 (fOpp r k p))) := by
  unfold fOpp
  go_enter Try.func58, Try.ntmps58
  go_wp2
  go_ret
  exact ⟨rfl, (Below.refl _ _).alloc (Nat.le_refl _) _⟩
theorem pro1_c (W : World) (r : Res) (k p : Int) : Calls Try.prog 51 #[.agg #[.int .i64 r.h, .int .i64 r.a, .int .i64 r.g, .int .i64 r.t], .int .i64 k, .int .i64 p] W (Gives W (.int .i64 (fPro r k p))) := by
  unfold fPro
  have hgf := fun W => pointsFor_c r.h r.a r.g r.t k W
  obtain ⟨b0, b1, b2, b3⟩ := box4 W (.int .i64 r.h) (.int .i64 r.a) (.int .i64 r.g) (.int .i64 r.t) 47
  have hbw : Below W.heap.size W (W.alloc (.cells #[.int .i64 r.h, .int .i64 r.a, .int .i64 r.g, .int .i64 r.t] 47)) := (Below.refl _ _).alloc (Nat.le_refl _) _
  have Hgf := Lib.hid hgf
  have Hbw := Lib.hid hbw
  clear hgf hbw
  go_enter Try.func51, Try.ntmps51
  go_wp2_with fail
  refine (Hgf.out _).mono ?_
  rintro e w1 ⟨rfl, hb1⟩
  go_wp2
  go_ret
  exact ⟨rfl, Hbw.out.trans (hb1.mono Hbw.out.size)⟩
theorem outF_bd (h g t k : Int) : 0 ≤ outF h g t k ∧ outF h g t k ≤ 2 := by
  have := cmpI_bd (ownG h g t k) (othG h g t k)
  unfold outF; omega
theorem wei_bd {p o : Int} (h1 : 0 ≤ p) (h2 : p ≤ 180) (h3 : 0 ≤ o) (h4 : o ≤ 2) : 0 ≤ p * o ∧ p * o ≤ 360 := ⟨Int.mul_nonneg h1 h3, by have := Int.mul_le_mul h2 h4 h3 (by omega : (0 : Int) ≤ 180); omega⟩
set_option maxHeartbeats 1000000 in
theorem wei1_c (W : World) (r : Res) (k p : Int) (h1 : 0 ≤ p) (h2 : p ≤ 180) : Calls Try.prog 56 #[.agg #[.int .i64 r.h, .int .i64 r.a, .int .i64 r.g, .int .i64 r.t], .int .i64 k, .int .i64 p] W (Gives W (.int .i64 (fWei r k p))) := by
  unfold fWei
  have hgf := fun W => outcome_c r.h r.a r.g r.t k W
  have ho := outF_bd r.h r.g r.t k
  obtain ⟨o, eo⟩ : ∃ o, outF r.h r.g r.t k = o := ⟨_, rfl⟩
  rw [eo] at ho ⊢
  simp only [eo] at hgf
  have hq := wei_bd h1 h2 ho.1 ho.2
  have e1 : IntKind.i64.wrap (p * o) = p * o := IntWalk.i64_in _ (by omega)
  obtain ⟨b0, b1, b2, b3⟩ := box4 W (.int .i64 r.h) (.int .i64 r.a) (.int .i64 r.g) (.int .i64 r.t) 47
  have hbw : Below W.heap.size W (W.alloc (.cells #[.int .i64 r.h, .int .i64 r.a, .int .i64 r.g, .int .i64 r.t] 47)) := (Below.refl _ _).alloc (Nat.le_refl _) _
  obtain ⟨z, hz⟩ : ∃ z, p * o = z := ⟨_, rfl⟩
  rw [hz] at e1 ⊢
  have Hgf := Lib.hid hgf
  have Hbw := Lib.hid hbw
  have Eo := Lib.hid eo
  clear hgf hbw eo
  go_enter Try.func56, Try.ntmps56
  go_wp2_with fail
  refine (Hgf.out _).mono ?_
  rintro e w1 ⟨rfl, hb1⟩
  go_wp2
  go_ret
  exact ⟨rfl, Hbw.out.trans (hb1.mono Hbw.out.size)⟩
end Go.Proofs.Ytehlijpjcjegcaa
