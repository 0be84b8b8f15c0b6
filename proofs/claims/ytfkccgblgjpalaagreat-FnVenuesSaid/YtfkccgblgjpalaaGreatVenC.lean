
/- What the law on venues wants, second part: patterns turned, sums of breaks, and that a round robin lacks nothing. No program in sight. -/
import Derived.Test.YtfkccgblgjpalaaGreatVenB
namespace Go.Proofs.YtfkccgblgjpalaaGreat
set_option linter.unusedVariables false
set_option linter.unusedSimpArgs false
open Go.RowKit

/-! ### Patterns turned -/
def swC (c : UInt8) : UInt8 := UInt8.ofNat (swapB c.toNat)
theorem ha_two {c : UInt8} (h : isHA c = true) : c = 72 ∨ c = 65 := by simpa [isHA] using h
theorem sw_ha {c : UInt8} (h : isHA c = true) : isHA (swC c) = true ∧ swC (swC c) = c := by
  rcases ha_two h with rfl | rfl <;> decide
theorem sw_eq {c d : UInt8} (h : isHA c = true) (k : isHA d = true) : swC c = swC d ↔ c = d := by
  rcases ha_two h with rfl | rfl <;> rcases ha_two k with rfl | rfl <;> decide
theorem flip_list (s : ByteArray) : (flipS s).data.toList = s.data.toList.map swC := by
  rw [flipS, strOfNums_data, List.map_map]; rfl
theorem flip_ok {s : ByteArray} (h : patOk s = true) : patOk (flipS s) = true := by
  simp only [patOk, Bool.and_eq_true, decide_eq_true_eq, List.all_eq_true] at h ⊢
  rw [flipS_size, flip_list]
  refine ⟨h.1, fun b hb => ?_⟩
  obtain ⟨c, hc, rfl⟩ := List.mem_map.1 hb
  exact (sw_ha (h.2 c hc)).1
theorem pat_all {s : ByteArray} (h : patOk s = true) : ∀ c ∈ s.data.toList, isHA c = true := by
  simp only [patOk, Bool.and_eq_true, decide_eq_true_eq, List.all_eq_true] at h
  exact h.2
theorem other_other {s : ByteArray} (h : patOk s = true) : otherF (otherF s) = s := by
  rw [otherF, otherF, if_pos h, if_pos (flip_ok h)]
  apply ByteArray.ext
  apply Array.ext'
  rw [flip_list, flip_list, List.map_map]
  have : s.data.toList.map (swC ∘ swC) = s.data.toList.map id := List.map_congr_left (fun c hc => (sw_ha (pat_all h c hc)).2)
  rw [this, List.map_id]
theorem brkP_sw : ∀ (r : List UInt8) (c : UInt8) (m : Nat), isHA c = true → (∀ d ∈ r, isHA d = true) → brkP (swC c) m (r.map swC) = brkP c m r
  | [], _, _, _, _ => rfl
  | x :: r, c, m, hc, hr => by
    have hx := hr x (by simp)
    rw [List.map_cons, brkP, brkP, brkP_sw r x _ hx (fun d hd => hr d (by simp [hd]))]
    congr 1
    by_cases e : x = c
    · rw [if_pos e, if_pos ((sw_eq hx hc).2 e)]
    · rw [if_neg e, if_neg (fun h => e ((sw_eq hx hc).1 h))]
theorem breaks_other {s : ByteArray} (h : patOk s = true) : patBreaks (otherF s) = patBreaks s := by
  have ha := pat_all h
  rw [otherF, if_pos h, patBreaks, patBreaks, if_pos h, if_pos (flip_ok h), flip_list]
  cases hl : s.data.toList with
  | nil => rfl
  | cons c r =>
    rw [hl] at ha
    show ((brkP (swC c) 0 (r.map swC) : Nat) : Int) = _
    rw [brkP_sw r c 0 (ha c (by simp)) (fun d hd => ha d (by simp [hd]))]

/-! ### Sums of breaks -/
def vb (k : Nat) (x : List Int) : UInt8 := UInt8.ofNat (ven k x).toNat
theorem vb_eq (k : Nat) (x p : List Int) : vb k x = vb k p ↔ sgn (x.getD k 0) = sgn (p.getD k 0) := by
  rw [vb, vb, ven, ven, sgn_eq]
  by_cases h1 : 0 < x.getD k 0 <;> by_cases h2 : 0 < p.getD k 0
  · rw [if_pos h1, if_pos h2, decide_eq_true h1, decide_eq_true h2]; decide
  · rw [if_pos h1, if_neg h2, decide_eq_true h1, decide_eq_false h2]; decide
  · rw [if_neg h1, if_pos h2, decide_eq_false h1, decide_eq_true h2]; decide
  · rw [if_neg h1, if_neg h2, decide_eq_false h1, decide_eq_false h2]; decide
theorem brk_len (k : Nat) : ∀ (t : List (List Int)) (p : List Int) (r m : Nat), brkP (vb k p) m (t.map (vb k)) = m + (brk k r p t).length
  | [], p, r, m => by simp [brkP, brk]
  | x :: t, p, r, m => by
    rw [List.map_cons, brkP, brk]
    by_cases h : vb k x = vb k p
    · rw [if_pos h, if_pos ((vb_eq k x p).1 h), brk_len k t x (r + 1), List.length_cons]; omega
    · rw [if_neg h, if_neg (fun e => h ((vb_eq k x p).2 e)), brk_len k t x (r + 1)]
section
variable {n : Nat} {plan : List (List Int)}
theorem ven_breaks (hp : planOk n plan = true) {k : Nat} (hk : k < n) : patBreaks (venues n plan k) = ((brkOf plan k).length : Int) := by
  rw [patBreaks, if_pos (ven_patOk hp hk), ven_of hp hk, strOfNums_data, List.map_map]
  cases plan with
  | nil => rfl
  | cons p t =>
    show ((brkP (vb k p) 0 (t.map (vb k)) : Nat) : Int) = _
    rw [brk_len k t p 1 0, Nat.zero_add]; rfl
theorem sumUp_sum (g : Nat → Nat) : ∀ (m a : Nat), sumUp (fun k => (g k : Int)) a m = ((sumN (fun k => g (a + k)) m : Nat) : Int)
  | 0, a => rfl
  | m + 1, a => by
    rw [sumUp, sumUp_sum g m (a + 1), sumN_front]
    have : sumN (fun k => g (a + 1 + k)) m = sumN (fun k => g (a + (k + 1))) m := sumN_congr m (fun k _ => by rw [show a + 1 + k = a + (k + 1) by omega])
    rw [this, Nat.add_zero]; omega
theorem cnt_sum (hp : planOk n plan = true) : cntBreaks n plan = ((sumN (fun k => (brkOf plan k).length) n : Nat) : Int) := by
  rw [cntBreaks, if_pos hp, Int.toNat_natCast, sumUp_sum]
  congr 1
  exact congrArg (fun f => sumN f n) (funext fun k => by rw [Nat.zero_add])
theorem brk_small (hp : planOk n plan = true) (k : Nat) : sumN (fun k => (brkOf plan k).length) k ≤ 36 * k := by
  have h36 := (plan_of hp).len
  induction k with
  | zero => exact Nat.le_refl _
  | succ k ih => have := brkOf_length plan k; rw [sumN]; omega

/-! ### Round robins -/
theorem bump_at (cs : List Int) (o j : Nat) (hj : j < cs.length) : (bump cs o).getD j 0 = cs.getD j 0 + ((one (decide (o = j)) : Nat) : Int) := by
  rw [bump, List.getD_eq_getElem?_getD, List.getElem?_set]
  by_cases e : o = j
  · subst e
    rw [if_pos rfl, if_pos hj, decide_eq_true rfl, Option.getD_some]; rfl
  · rw [if_neg e, decide_eq_false e, ← List.getD_eq_getElem?_getD]; simp [one]
theorem met_at (k : Nat) : ∀ (plan : List (List Int)) (cs : List Int) (j : Nat), j < cs.length → (metBy k plan cs).getD j 0 = cs.getD j 0 + ((sumN (fun r => one (decide (sg plan r k = j))) plan.length : Nat) : Int)
  | [], cs, j, hj => by simp [metBy, sumN]
  | x :: t, cs, j, hj => by
    rw [metBy, met_at k t _ j (by rw [bump_length]; exact hj), bump_at _ _ _ hj, List.length_cons, sumN_front]
    have e1 : sumN (fun r => one (decide (sg (x :: t) (r + 1) k = j))) t.length = sumN (fun r => one (decide (sg t r k = j))) t.length := rfl
    have e2 : sg (x :: t) 0 k = (opp (x.getD k 0)).toNat := rfl
    rw [e1, e2]; omega
theorem only_at (k : Nat) (each : Int) : ∀ (cs : List Int) (a j : Nat), onlyK k each a cs = true → j < cs.length → a + j ≠ k → cs.getD j 0 = each
  | [], a, j, _, h, _ => by simp at h
  | c :: r, a, j, h, hj, hne => by
    simp only [onlyK, Bool.and_eq_true, Bool.or_eq_true, decide_eq_true_eq] at h
    cases j with
    | zero =>
      rcases h.1 with h1 | h1
      · omega
      · exact h1
    | succ j =>
      rw [List.getD_cons_succ]
      exact only_at k each r (a + 1) j h.2 (by simpa using hj) (by omega)
theorem allUp_at (p : Nat → Bool) : ∀ (m a k : Nat), allUp p a m = true → a ≤ k → k < a + m → p k = true
  | 0, a, k, _, h, h2 => by omega
  | m + 1, a, k, h, h1, h2 => by
    simp only [allUp, Bool.and_eq_true] at h
    by_cases e : a = k
    · subst e; exact h.1
    · exact allUp_at p m (a + 1) k h.2 (by omega) (by omega)
theorem rr_once (hp : rrOk n plan 1 = true) {k j : Nat} (hk : k < n) (hj : j < n) (hne : j ≠ k) : sumN (fun r => one (decide (sg plan r k = j))) plan.length = 1 := by
  simp only [rrOk, Bool.and_eq_true, Int.toNat_natCast] at hp
  have h1 := allUp_at _ n 0 k hp.2 (by omega) (by omega)
  rw [rrAt] at h1
  have h2 := only_at k 1 _ 0 j h1 (by rw [metBy_length, List.length_replicate]; exact hj) (by omega)
  rw [met_at k plan _ j (by rw [List.length_replicate]; exact hj)] at h2
  have h3 : (List.replicate n (0 : Int)).getD j 0 = 0 := by rw [List.getD_eq_getElem?_getD, List.getElem?_replicate, if_pos hj]; rfl
  omega
theorem sumN_if (p : Nat → Bool) (c : Nat) : ∀ m, sumN (fun r => if p r = true then c else 0) m = c * sumN (fun r => one (p r)) m
  | 0 => rfl
  | m + 1 => by
    rw [sumN, sumN, sumN_if p c m, Nat.mul_add]
    congr 1
    cases p m <;> simp [one]
def gp (x k j : Nat) : Nat := one (inX x k && inX x j && decide (k < j))
theorem games_all (hr : rrOk n plan 1 = true) (x : Nat) : sumN (gamesAt plan n x) plan.length = sumN (fun k => sumN (fun j => gp x k j) n) n := by
  have hp : planOk n plan = true := by simp only [rrOk, Bool.and_eq_true] at hr; exact hr.1.1.1
  have e0 : sumN (gamesAt plan n x) plan.length = sumN (fun k => sumN (fun r => gp x k (sg plan r k)) plan.length) n := by
    show sumN (fun r => sumN (fun k => gp x k (sg plan r k)) n) plan.length = _
    exact sumN_swap (fun r k => gp x k (sg plan r k)) n plan.length
  rw [e0]
  refine sumN_congr n (fun k hk => ?_)
  have e1 : sumN (fun r => gp x k (sg plan r k)) plan.length = sumN (fun r => sumN (fun j => if decide (sg plan r k = j) = true then gp x k j else 0) n) plan.length :=
    sumN_congr _ (fun r hr => by
      have h1 := (ven_cell hp hr hk).1.1
      rw [sumN_one (k := sg plan r k) n h1 (fun j _ hj => if_neg (by rw [decide_eq_true_iff]; exact fun e => hj e.symm)), if_pos (decide_eq_true rfl)])
  rw [e1, sumN_swap (fun r j => if decide (sg plan r k = j) = true then gp x k j else 0) n plan.length]
  refine sumN_congr n (fun j hj => ?_)
  rw [sumN_if (fun r => decide (sg plan r k = j)) (gp x k j) plan.length]
  by_cases e : j = k
  · subst e
    have : gp x j j = 0 := by rw [gp, decide_eq_false (Nat.lt_irrefl j), Bool.and_false]; rfl
    rw [this, Nat.zero_mul]
  · rw [rr_once hr hk hj e, Nat.mul_one]
theorem sumN_mul (f : Nat → Nat) (c : Nat) : ∀ m, sumN (fun k => c * f k) m = c * sumN f m
  | 0 => rfl
  | m + 1 => by rw [sumN, sumN, sumN_mul f c m, Nat.mul_add]
theorem pairs_card (x n : Nat) : sumN (fun k => one (inX x k)) n * sumN (fun k => one (inX x k)) n = 2 * sumN (fun k => sumN (fun j => gp x k j) n) n + sumN (fun k => one (inX x k)) n := by
  have e1 : sumN (fun k => sumN (fun j => one (inX x k) * one (inX x j)) n) n = sumN (fun k => one (inX x k)) n * sumN (fun k => one (inX x k)) n := by
    have : sumN (fun k => sumN (fun j => one (inX x k) * one (inX x j)) n) n = sumN (fun k => sumN (fun j => one (inX x j)) n * one (inX x k)) n :=
      sumN_congr n (fun k _ => by rw [sumN_mul (fun j => one (inX x j)) (one (inX x k)) n, Nat.mul_comm])
    rw [this, sumN_mul (fun k => one (inX x k)) _ n]
  have e2 : sumN (fun k => sumN (fun j => one (inX x k) * one (inX x j)) n) n = sumN (fun k => sumN (fun j => gp x k j) n + sumN (fun j => gp x j k) n + one (inX x k)) n := by
    refine sumN_congr n (fun k hk => ?_)
    have h1 : sumN (fun j => if j = k then one (inX x k) else 0) n = one (inX x k) := by
      rw [sumN_one (k := k) n hk (fun j _ hj => if_neg hj), if_pos rfl]
    rw [← h1, ← sumN_add, ← sumN_add]
    refine sumN_congr n (fun j hj => ?_)
    rw [h1, gp, gp]
    by_cases e : j = k
    · subst e
      rw [if_pos rfl, decide_eq_false (Nat.lt_irrefl j)]
      cases inX x j <;> rfl
    · rw [if_neg e]
      rcases Nat.lt_or_gt_of_ne e with h | h
      · rw [decide_eq_true h, decide_eq_false (show ¬ k < j by omega)]
        cases inX x k <;> cases inX x j <;> rfl
      · rw [decide_eq_true (show k < j by omega), decide_eq_false (show ¬ j < k by omega)]
        cases inX x k <;> cases inX x j <;> rfl
  rw [← e1, e2, sumN_add, sumN_add, sumN_swap (fun k j => gp x j k) n n]
  omega
theorem first_no (P : Nat → Bool) : ∀ (f s : Nat), (∀ x, P x = false) → firstIn P f s = 0
  | 0, _, _ => rfl
  | f + 1, s, h => by rw [firstIn, if_neg (by rw [h s]; decide), first_no P f (s + 1) h]
theorem first_yes (P : Nat → Bool) : ∀ (f s : Nat), firstIn P f s = 0 ∨ (s ≤ firstIn P f s ∧ firstIn P f s < s + f ∧ P (firstIn P f s) = true)
  | 0, _ => .inl rfl
  | f + 1, s => by
    rw [firstIn]
    split
    · rename_i h; exact .inr ⟨by omega, by omega, h⟩
    · rcases first_yes P f (s + 1) with h | ⟨h1, h2, h3⟩
      · exact .inl h
      · exact .inr ⟨by omega, by omega, h3⟩
theorem rr_lack (hr : rrOk n plan 1 = true) : lackF (patsF n plan) = 0 := by
  have hp : planOk n plan = true := by simp only [rrOk, Bool.and_eq_true] at hr; exact hr.1.1.1
  rw [lackF, if_pos (pats_ok hp)]
  refine first_no _ _ _ (fun x => ?_)
  rw [lacks, decide_eq_false_iff_not]
  rintro ⟨_, h2⟩
  have h3 := games_most hp x
  rw [games_all hr x] at h3
  have hc : card (patsF n plan) x = sumN (fun k => one (inX x k)) n := by rw [card, card_sum, pats_len hp]
  have h4 := pairs_card x n
  rw [hc] at h2
  generalize sumN (fun k => one (inX x k)) n = C at h2 h4
  generalize sumN (fun k => sumN (fun j => gp x k j) n) n = T at h3 h4
  have h5 : C * (C - 1) = 2 * T := by
    cases C with
    | zero => omega
    | succ C => rw [Nat.add_sub_cancel]; rw [Nat.mul_add] at h4; omega
  omega
theorem lack_yes (hp : planOk n plan = true) (h : lackF (patsF n plan) ≠ 0) : lackF (patsF n plan) < 2 ^ n ∧ mostN (patsF n plan) (lackF (patsF n plan)) < card (patsF n plan) (lackF (patsF n plan)) * (card (patsF n plan) (lackF (patsF n plan)) - 1) / 2 := by
  have e : lackF (patsF n plan) = firstIn (lacks (patsF n plan)) (2 ^ n - 1) 1 := by rw [lackF, if_pos (pats_ok hp), pats_len hp]
  rw [e] at h ⊢
  rcases first_yes (lacks (patsF n plan)) (2 ^ n - 1) 1 with h1 | ⟨h1, h2, h3⟩
  · exact absurd h1 h
  · rw [lacks, decide_eq_true_iff] at h3
    have := Nat.one_le_two_pow (n := n)
    exact ⟨by omega, h3.2⟩
end
end Go.Proofs.YtfkccgblgjpalaaGreat
