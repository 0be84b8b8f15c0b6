/- What the law on carry-over rests on, in plain Lean: no program in sight. -/
import Derived.Test.YthbpeolcmlkneaaLeast
import Derived.Test.YthbpeolcmlkneaaCarryB
import Derived.Test.YthbpeolcmlkneaaRobinR
import Derived.Test.YthbpeolcmlkneaaField
namespace Go.Proofs.Ythbpeolcmlkneaa
set_option linter.unusedSimpArgs false
set_option linter.unusedVariables false
open Go.RowKit

theorem sum_set_one : ∀ (xs : List Int) (j : Nat), j < xs.length → (xs.set j (xs.getD j 0 + 1)).sum = xs.sum + 1
  | [], j, h => by simp at h
  | x :: r, 0, _ => by simp; omega
  | x :: r, j + 1, h => by
    have := sum_set_one r j (by simpa using h)
    rw [List.set_cons_succ, List.sum_cons, List.sum_cons, List.getD_cons_succ, this]; omega
theorem bump_row {n : Nat} {b : Int} {t : List (List Int)} (ht : Tab n b t) {i j a : Nat} (hi : i < n) (hj : j < n) : ((bump t i j).getD a []).sum = (t.getD a []).sum + (if i = a then 1 else 0) := by
  obtain ⟨xs, hx⟩ := some_of (l := t) (k := i) (by rw [ht.len]; exact hi)
  have hxl := (ht.row xs (List.mem_of_getElem? hx)).1
  have e : t.getD i [] = xs := by rw [List.getD_eq_getElem?_getD, hx]; rfl
  rw [bump, e, List.getD_eq_getElem?_getD, List.getElem?_set]
  by_cases h : i = a
  · subst h
    rw [if_pos rfl, if_pos (by rw [ht.len]; exact hi), if_pos rfl, e]
    exact sum_set_one xs j (by omega)
  · rw [if_neg h, if_neg h, List.getD_eq_getElem?_getD]; omega
def cnt (round : List Int) (a : Nat) : Nat → Nat → Int
  | 0, _ => 0
  | f + 1, k => (if (opp (round.getD k 0)).toNat = a then 1 else 0) + cnt round a f (k + 1)
theorem cnt_K (round : List Int) (a K : Nat) : ∀ (f k : Nat), (∀ j, k ≤ j → j < k + f → ((opp (round.getD j 0)).toNat = a ↔ j = K)) → cnt round a f k = if k ≤ K ∧ K < k + f then 1 else 0
  | 0, k, _ => by rw [cnt, if_neg (by omega)]
  | f + 1, k, h => by
    rw [cnt, cnt_K round a K f (k + 1) (fun j h1 h2 => h j (by omega) (by omega))]
    have h0 := h k (Nat.le_refl _) (by omega)
    by_cases e : k = K
    · rw [if_pos (h0.2 e), if_neg (by omega), if_pos (by omega)]; rfl
    · rw [if_neg (fun hh => e (h0.1 hh))]
      by_cases e2 : k + 1 ≤ K ∧ K < k + 1 + f
      · rw [if_pos e2, if_pos (by omega)]; rfl
      · rw [if_neg e2, if_neg (by omega)]; rfl
theorem opp_toNat {n : Nat} {plan : List (List Int)} (hP : Plan n plan) {r : Nat} {round : List Int} (hr : plan[r]? = some round) {k : Nat} (hk : k < n) :
    (opp (round.getD k 0)).toNat < n ∧ (opp (round.getD (opp (round.getD k 0)).toNat 0)).toNat = k := by
  have hl := hP.rlen hr
  obtain ⟨v, hv⟩ := some_of (l := round) (k := k) (by omega)
  have c1 := hP.cell hr hv
  have e : round.getD k 0 = v := by rw [List.getD_eq_getElem?_getD, hv]; rfl
  rw [e]
  refine ⟨by have := c1.opp0; have := c1.oppn; omega, ?_⟩
  rw [List.getD_eq_getElem?_getD, c1.back]
  simp only [Option.getD_some]
  have hs : sgn (-v) = 1 ∨ sgn (-v) = -1 := by unfold sgn; split <;> simp
  unfold opp
  rcases hs with hs | hs <;> rw [hs] <;> omega
theorem cnt_one {n : Nat} {plan : List (List Int)} (hP : Plan n plan) {r : Nat} {round : List Int} (hr : plan[r]? = some round) {a : Nat} (ha : a < n) : cnt round a n 0 = 1 := by
  obtain ⟨h1, h2⟩ := opp_toNat hP hr ha
  rw [cnt_K round a (opp (round.getD a 0)).toNat n 0 (fun j _ hj => ?_), if_pos ⟨Nat.zero_le _, by omega⟩]
  obtain ⟨h3, h4⟩ := opp_toNat hP hr (k := j) (by omega)
  constructor
  · intro e; rw [← e, h4]
  · intro e; rw [e, h2]
theorem carryK_row {n : Nat} {round next : List Int} {a : Nat} (hr : ∀ k, k < n → (opp (round.getD k 0)).toNat < n ∧ (opp (next.getD k 0)).toNat < n) :
    ∀ (f k : Nat) (t : List (List Int)) (b : Int), 0 ≤ b → k + f = n → Tab n b t → ((carryK round next f k t).getD a []).sum = (t.getD a []).sum + cnt round a f k
  | 0, k, t, b, _, _, _ => by simp [carryK, cnt]
  | f + 1, k, t, b, hb, hk, ht => by
    obtain ⟨h1, h2⟩ := hr k (by omega)
    rw [carryK, carryK_row hr f (k + 1) _ (b + 1) (by omega) (by omega) (ht.bump hb h1), bump_row ht h1 h2, cnt]; omega
theorem carryR_row {n : Nat} {plan : List (List Int)} (hP : Plan n plan) {a : Nat} (ha : a < n) : ∀ (f r : Nat) (t : List (List Int)) (b : Int), 0 ≤ b → r + f = plan.length → Tab n b t → ((carryR plan n f r t).getD a []).sum = (t.getD a []).sum + (f : Int)
  | 0, r, t, b, _, _, _ => by simp [carryR]
  | f + 1, r, t, b, hb, hr, ht => by
    obtain ⟨round, hx⟩ := some_of (l := plan) (k := r) (by omega)
    obtain ⟨next, hy⟩ := some_of (l := plan) (k := (r + 1) % plan.length) (Nat.mod_lt _ (by omega))
    have e1 : plan.getD r [] = round := by rw [List.getD_eq_getElem?_getD, hx]; rfl
    have e2 : plan.getD ((r + 1) % plan.length) [] = next := by rw [List.getD_eq_getElem?_getD, hy]; rfl
    have hk := carryK_tab (n := n) hb (round := round) (next := next) n 0 t (fun j _ hj => (opp_toNat hP hx (k := j) (by omega)).1) ht
    rw [carryR, e1, e2, carryR_row hP ha f (r + 1) _ (b + n) (by omega) (by omega) hk,
      carryK_row (fun k hk => ⟨(opp_toNat hP hx hk).1, (opp_toNat hP hy hk).1⟩) n 0 t b hb (by omega) ht, cnt_one hP hx ha]
    omega
theorem zeros_row (n a : Nat) : ((zeros n).getD a []).sum = 0 := by
  rw [List.getD_eq_getElem?_getD, zeros, List.getElem?_replicate]
  split
  · simp only [Option.getD_some]
    induction n with
    | zero => rfl
    | succ n ih => rw [List.replicate_succ, List.sum_cons]; simp
  · rfl
theorem carry_row {n : Nat} {plan : List (List Int)} (h : planOk n plan = true) {a : Nat} (ha : a < n) : ((carryR plan n plan.length 0 (zeros n)).getD a []).sum = (plan.length : Int) := by
  rw [carryR_row (plan_of h) ha plan.length 0 _ 0 (Int.le_refl _) (by omega) (zeros_tab n), zeros_row]; omega
/-- All rows together. -/
theorem rows_sum {n : Nat} {L : Int} : ∀ (t : List (List Int)), (∀ xs ∈ t, xs.sum = L) → (t.map List.sum).sum = (t.length : Int) * L
  | [], _ => by simp
  | xs :: r, h => by
    rw [List.map_cons, List.sum_cons, rows_sum (n := n) r (fun ys hy => h ys (by simp [hy])), h xs (by simp), List.length_cons, Int.natCast_add, Int.add_mul]; simp; omega
theorem sqL_ge : ∀ (xs : List Int) (z : Int), (∀ x ∈ xs, 0 ≤ x) → z + xs.sum ≤ sqL xs z
  | [], z, _ => by simp [sqL]
  | x :: r, z, h => by
    have h0 := h x (by simp)
    have h1 := sqL_ge r (z + x * x) (fun y hy => h y (by simp [hy]))
    have h2 : x ≤ x * x := by
      rcases Int.lt_or_le 0 x with hx | hx
      · have := Int.mul_le_mul_of_nonneg_left (show (1 : Int) ≤ x by omega) (show 0 ≤ x by omega); omega
      · have : x = 0 := by omega
        subst this; decide
    rw [sqL, List.sum_cons]; omega
theorem sqT_ge : ∀ (t : List (List Int)) (z : Int), (∀ xs ∈ t, ∀ x ∈ xs, 0 ≤ x) → z + (t.map List.sum).sum ≤ sqT t z
  | [], z, _ => by simp [sqT]
  | xs :: r, z, h => by
    have h1 := sqL_ge xs z (h xs (by simp))
    have h2 := sqT_ge r (sqL xs z) (fun ys hy => h ys (by simp [hy]))
    rw [sqT, List.map_cons, List.sum_cons]; omega
theorem carry_rows {n : Nat} {plan : List (List Int)} (h : planOk n plan = true) : ∀ xs ∈ carryR plan n plan.length 0 (zeros n), xs.sum = (plan.length : Int) := fun xs hx => by
  obtain ⟨a, ha⟩ := List.getElem?_of_mem hx
  have hl := (carry_tab h).len
  have := carry_row h (a := a) (by have := lt_of ha; omega)
  rwa [List.getD_eq_getElem?_getD, ha] at this
theorem val_ge {n : Nat} {plan : List (List Int)} (h : planOk n plan = true) (h2 : plan ≠ []) : (n : Int) * (plan.length : Int) ≤ valF n plan := by
  rw [valF, if_pos ⟨h, h2⟩, Int.toNat_natCast]
  have ht := carry_tab h
  have h3 := sqT_ge _ 0 (fun xs hx x hxx => ((ht.row xs hx).2 x hxx).1)
  rw [rows_sum (n := n) _ (carry_rows h), ht.len] at h3
  omega
theorem rr_len {n : Int} {plan : List (List Int)} (h : rrOk n plan 1 = true) : (plan.length : Int) = n - 1 := by
  simp only [rrOk, Bool.and_eq_true, decide_eq_true_eq] at h
  have := h.1.2
  omega

/-! ### The plan with the least -/
theorem lcS_val {n : Int} {plan : List (List Int)} {r : Nat} : ∀ (f s : Nat) (b : List (List Int)), valF n (lcS n plan r f s b) ≤ valF n b
  | 0, _, _ => Int.le_refl _
  | f + 1, s, b => by
    rw [lcS]
    refine Int.le_trans (lcS_val f (s + 1) _) ?_
    unfold stepL
    split <;> omega
theorem lcR_val {n : Int} {plan : List (List Int)} : ∀ (f r : Nat) (b : List (List Int)), valF n (lcR n plan f r b) ≤ valF n b
  | 0, _, _ => Int.le_refl _
  | f + 1, r, b => by
    rw [lcR]
    exact Int.le_trans (lcR_val f (r + 1) _) (lcS_val f (r + 1) b)
def OkL (n : Int) (M : Nat) (b : List (List Int)) : Prop := planOk n b = true ∧ b.length = M
theorem lcS_okL {n : Int} {plan : List (List Int)} {r : Nat} (h : planOk n plan = true) (hr : r < plan.length) : ∀ (f s : Nat) (b : List (List Int)), s + f = plan.length → OkL n plan.length b → OkL n plan.length (lcS n plan r f s b)
  | 0, _, _, _, hb => hb
  | f + 1, s, b, hs, hb => by
    rw [lcS]
    refine lcS_okL h hr f (s + 1) _ (by omega) ?_
    unfold stepL
    split
    · exact ⟨planOk_swp h hr (by omega), by rw [swp_length]⟩
    · exact hb
theorem lcR_okL {n : Int} {plan : List (List Int)} (h : planOk n plan = true) : ∀ (f r : Nat) (b : List (List Int)), r + f = plan.length → OkL n plan.length b → OkL n plan.length (lcR n plan f r b)
  | 0, _, _, _, hb => hb
  | f + 1, r, b, hr, hb => by
    rw [lcR]
    exact lcR_okL h f (r + 1) _ (by omega) (lcS_okL h (by omega) f (r + 1) b (by omega) hb)
theorem least_facts {n : Int} {plan : List (List Int)} (h : planOk n plan = true) (h2 : plan ≠ []) : planOk n (leastF n plan) = true ∧ (leastF n plan).length = plan.length ∧ valF n (leastF n plan) ≤ valF n plan := by
  rw [leastF, if_pos ⟨h, h2⟩]
  obtain ⟨h3, h4⟩ := lcR_okL h plan.length 0 plan (by omega) ⟨h, rfl⟩
  exact ⟨h3, h4, lcR_val _ _ _⟩

/-! ### The plans of fields and of binary numbers -/
def XSize (m : Nat) : Prop := m = 2 ∨ m = 4 ∨ m = 8
theorem field_facts {m : Nat} (h : XSize m) : isXor (m : Int) = true ∧ rrOk m (fieldOf m) 1 = true ∧ rrOk m (xorOf m) 1 = true ∧ balF m (fieldOf m) = true ∧ valF m (fieldOf m) = (m : Int) * ((m : Int) - 1) ∧ (m : Int) * ((m : Int) - 1) ≤ valF m (xorOf m) ∧ (fieldOf m).length ≤ 7 ∧ (xorOf m).length ≤ 7 := by
  rcases h with rfl | rfl | rfl <;> exact ⟨by decide +kernel, by decide +kernel, by decide +kernel, by decide +kernel, by decide +kernel, by decide +kernel, by decide +kernel, by decide +kernel⟩
end Go.Proofs.Ythbpeolcmlkneaa
