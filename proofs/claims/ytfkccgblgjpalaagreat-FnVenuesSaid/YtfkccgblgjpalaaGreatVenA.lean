
/- Sums over 0..n-1, an involution, and games within a set: no more than home places, no more than away places. No program in sight. -/
import Derived.Test.YtfkccgblgjpalaaGreatMost
namespace Go.Proofs.YtfkccgblgjpalaaGreat
set_option linter.unusedVariables false

def sumN (f : Nat → Nat) : Nat → Nat
  | 0 => 0
  | n + 1 => sumN f n + f n
theorem sumN_congr {f g : Nat → Nat} : ∀ n, (∀ k, k < n → f k = g k) → sumN f n = sumN g n
  | 0, _ => rfl
  | n + 1, h => by rw [sumN, sumN, sumN_congr n (fun k hk => h k (by omega)), h n (by omega)]
theorem sumN_le {f g : Nat → Nat} : ∀ n, (∀ k, k < n → f k ≤ g k) → sumN f n ≤ sumN g n
  | 0, _ => Nat.le_refl _
  | n + 1, h => by
    have := sumN_le n (fun k hk => h k (by omega))
    have := h n (by omega)
    rw [sumN, sumN]; omega
theorem sumN_add (f g : Nat → Nat) : ∀ n, sumN (fun k => f k + g k) n = sumN f n + sumN g n
  | 0 => rfl
  | n + 1 => by rw [sumN, sumN, sumN, sumN_add f g n]; omega
theorem sumN_zero {f : Nat → Nat} : ∀ n, (∀ k, k < n → f k = 0) → sumN f n = 0
  | 0, _ => rfl
  | n + 1, h => by rw [sumN, sumN_zero n (fun k hk => h k (by omega)), h n (by omega)]
theorem sumN_one {f : Nat → Nat} {k : Nat} : ∀ n, k < n → (∀ j, j < n → j ≠ k → f j = 0) → sumN f n = f k
  | 0, h, _ => by omega
  | n + 1, h, h0 => by
    rw [sumN]
    by_cases e : k = n
    · subst e
      rw [sumN_zero k (fun j hj => h0 j (by omega) (by omega)), Nat.zero_add]
    · rw [sumN_one n (by omega) (fun j hj => h0 j (by omega)), h0 n (by omega) (by omega), Nat.add_zero]
theorem sumN_swap (f : Nat → Nat → Nat) (m : Nat) : ∀ n, sumN (fun a => sumN (fun b => f a b) m) n = sumN (fun b => sumN (fun a => f a b) n) m
  | 0 => by rw [sumN, sumN_zero]; intro k _; rfl
  | n + 1 => by
    rw [sumN, sumN_swap f m n, ← sumN_add]
    exact sumN_congr m (fun k _ => by rw [sumN])
theorem sumN_front (f : Nat → Nat) : ∀ n, sumN f (n + 1) = f 0 + sumN (fun k => f (k + 1)) n
  | 0 => by simp [sumN]
  | n + 1 => by
    have ih := sumN_front f n
    rw [sumN, ih, sumN]; omega
theorem sumN_inv {s : Nat → Nat} (q : Nat → Nat) (n : Nat) (hs : ∀ a, a < n → s a < n ∧ s (s a) = a) : sumN (fun a => q (s a)) n = sumN q n := by
  have h1 : sumN (fun a => q (s a)) n = sumN (fun a => sumN (fun b => if s a = b then q b else 0) n) n := sumN_congr n (fun a ha => by
    rw [sumN_one (k := s a) n (hs a ha).1 (fun j _ hj => if_neg (fun e => hj e.symm)), if_pos rfl])
  rw [h1, sumN_swap]
  refine sumN_congr n (fun b hb => ?_)
  obtain ⟨h2, h3⟩ := hs b hb
  rw [sumN_one (k := s b) n h2 (fun j hj hne => if_neg (fun e => hne (by rw [← e]; exact ((hs j hj).2).symm))), if_pos h3]

/-- One if it holds. -/
def one (b : Bool) : Nat := if b = true then 1 else 0
theorem one_le (b : Bool) : one b ≤ 1 := by cases b <;> decide
/-- Members of a set whose partner is a member, at home / the smaller of the two: as many. -/
theorem pairs_home {s : Nat → Nat} {h u : Nat → Bool} (n : Nat) (hs : ∀ a, a < n → s a < n ∧ s (s a) = a ∧ s a ≠ a ∧ h (s a) = !h a) :
    sumN (fun a => one (u a && u (s a) && decide (a < s a))) n = sumN (fun a => one (u a && u (s a) && h a)) n ∧
      sumN (fun a => one (u a && u (s a) && h a)) n = sumN (fun a => one (u a && u (s a) && !h a)) n := by
  have hinv : ∀ a, a < n → s a < n ∧ s (s a) = a := fun a ha => ⟨(hs a ha).1, (hs a ha).2.1⟩
  have e1 : sumN (fun a => one (u a && u (s a) && decide (s a < a))) n = sumN (fun a => one (u a && u (s a) && decide (a < s a))) n := by
    rw [← sumN_inv (fun a => one (u a && u (s a) && decide (a < s a))) n hinv]
    refine sumN_congr n (fun a ha => ?_)
    rw [(hs a ha).2.1, Bool.and_comm (u (s a)) (u a)]
  have e2 : sumN (fun a => one (u a && u (s a) && !h a)) n = sumN (fun a => one (u a && u (s a) && h a)) n := by
    rw [← sumN_inv (fun a => one (u a && u (s a) && h a)) n hinv]
    refine sumN_congr n (fun a ha => ?_)
    rw [(hs a ha).2.1, (hs a ha).2.2.2, Bool.and_comm (u (s a)) (u a)]
  have t1 : sumN (fun a => one (u a && u (s a))) n = sumN (fun a => one (u a && u (s a) && decide (a < s a))) n + sumN (fun a => one (u a && u (s a) && decide (s a < a))) n := by
    rw [← sumN_add]
    refine sumN_congr n (fun a ha => ?_)
    have hne := (hs a ha).2.2.1
    rcases Nat.lt_or_gt_of_ne hne with hl | hl
    · rw [decide_eq_true hl, decide_eq_false (show ¬ a < s a by omega)]; cases u a && u (s a) <;> rfl
    · rw [decide_eq_true (show a < s a by omega), decide_eq_false (show ¬ s a < a by omega)]; cases u a && u (s a) <;> rfl
  have t2 : sumN (fun a => one (u a && u (s a))) n = sumN (fun a => one (u a && u (s a) && h a)) n + sumN (fun a => one (u a && u (s a) && !h a)) n := by
    rw [← sumN_add]
    refine sumN_congr n (fun a ha => ?_)
    cases h a <;> cases u a && u (s a) <;> rfl
  omega

def inX (x k : Nat) : Bool := decide (x / 2 ^ k % 2 = 1)
theorem inX_succ (x k : Nat) : inX x (k + 1) = inX (x / 2) k := by
  rw [inX, inX, Nat.pow_succ, Nat.mul_comm, ← Nat.div_div_eq_div_mul]
theorem inX_zero (x : Nat) : inX x 0 = decide (x % 2 = 1) := by rw [inX, Nat.pow_zero, Nat.div_one]
theorem card_sum : ∀ (f a x : Nat), (bitsF f a x).length = sumN (fun k => one (inX x k)) f
  | 0, a, x => rfl
  | f + 1, a, x => by
    rw [sumN_front, sumN_congr f (fun k _ => by rw [inX_succ]), ← card_sum f (a + 1) (x / 2), bitsF, inX_zero]
    by_cases h : x % 2 = 1
    · rw [if_pos h, List.length_cons, decide_eq_true h]; show _ = 1 + _; omega
    · rw [if_neg h, decide_eq_false h]; show _ = 0 + _; omega
theorem homes_sum : ∀ (L : List Bool) (s x : Nat), homesIn s x L = s + sumN (fun k => one (inX x k && L.getD k false)) L.length
  | [], s, x => by simp [homesIn, sumN]
  | h :: r, s, x => by
    rw [homesIn, List.length_cons, sumN_front, homes_sum r _ (x / 2)]
    have e : sumN (fun k => one (inX x (k + 1) && (h :: r).getD (k + 1) false)) r.length = sumN (fun k => one (inX (x / 2) k && r.getD k false)) r.length :=
      sumN_congr _ (fun k _ => by rw [inX_succ, List.getD_cons_succ])
    rw [e, inX_zero, List.getD_cons_zero]
    by_cases hx : x % 2 = 1 ∧ h = true
    · rw [if_pos hx, decide_eq_true hx.1, hx.2]; show _ = s + (1 + _); omega
    · rw [if_neg hx]
      have : one (decide (x % 2 = 1) && h) = 0 := by
        rw [one, if_neg]
        simpa using hx
      rw [this]; omega
theorem most_sum (ss : List ByteArray) (x : Nat) : ∀ (f a s : Nat), mostFrom ss x f a s = s + sumN (fun k => mostAt ss x (a + k)) f
  | 0, a, s => by simp [mostFrom, sumN]
  | f + 1, a, s => by
    rw [mostFrom, most_sum ss x f (a + 1), sumN_front]
    have : sumN (fun k => mostAt ss x (a + 1 + k)) f = sumN (fun k => mostAt ss x (a + (k + 1))) f := sumN_congr f (fun k _ => by rw [show a + 1 + k = a + (k + 1) by omega])
    rw [this, Nat.add_zero]; omega
/-- In one round: the games within a set are no more than its clubs at home, and no more than those away. -/
theorem round_most {ss : List ByteArray} {a : Nat} {s : Nat → Nat} {h : Nat → Bool} (x : Nat) (hs : ∀ k, k < ss.length → s k < ss.length ∧ s (s k) = k ∧ s k ≠ k ∧ h (s k) = !h k)
    (hh : ∀ k, k < ss.length → (homeL ss a).getD k false = h k) : sumN (fun k => one (inX x k && inX x (s k) && decide (k < s k))) ss.length ≤ mostAt ss x a := by
  obtain ⟨e1, e2⟩ := pairs_home (u := inX x) ss.length hs
  have hl : (homeL ss a).length = ss.length := by simp [homeL]
  have hH : homesIn 0 x (homeL ss a) = sumN (fun k => one (inX x k && h k)) ss.length := by
    rw [homes_sum, Nat.zero_add, hl]
    exact sumN_congr _ (fun k hk => by rw [hh k hk])
  have hC : card ss x = sumN (fun k => one (inX x k && h k)) ss.length + sumN (fun k => one (inX x k && !h k)) ss.length := by
    rw [card, card_sum, ← sumN_add]
    exact sumN_congr _ (fun k _ => by cases inX x k <;> cases h k <;> rfl)
  have l1 : sumN (fun k => one (inX x k && inX x (s k) && h k)) ss.length ≤ sumN (fun k => one (inX x k && h k)) ss.length := sumN_le _ (fun k _ => by cases inX x k <;> cases inX x (s k) <;> cases h k <;> decide)
  have l2 : sumN (fun k => one (inX x k && inX x (s k) && !h k)) ss.length ≤ sumN (fun k => one (inX x k && !h k)) ss.length := sumN_le _ (fun k _ => by cases inX x k <;> cases inX x (s k) <;> cases h k <;> decide)
  rw [mostAt, hH, hC]
  omega
end Go.Proofs.YtfkccgblgjpalaaGreat
