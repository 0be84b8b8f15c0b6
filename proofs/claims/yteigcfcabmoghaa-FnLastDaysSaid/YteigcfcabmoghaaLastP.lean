/- What the law on last days rests on, in plain Lean: no program in sight. -/
import Derived.Test.YteigcfcabmoghaaNeedI
import Derived.Test.YteigcfcabmoghaaDayI
import Derived.Test.YteigcfcabmoghaaDayF
namespace Go.Proofs.Yteigcfcabmoghaa
set_option linter.unusedVariables false

/-! ### Sums over clubs -/
def sumF (f : Nat → Int) : Nat → Nat → Int
  | 0, _ => 0
  | m + 1, a => f a + sumF f m (a + 1)
theorem sumF_add (f g : Nat → Int) : ∀ m a, sumF (fun k => f k + g k) m a = sumF f m a + sumF g m a
  | 0, _ => rfl
  | m + 1, a => by simp only [sumF]; rw [sumF_add f g m (a + 1)]; omega
theorem sumF_congr {f g : Nat → Int} : ∀ m a, (∀ k, a ≤ k → k < a + m → f k = g k) → sumF f m a = sumF g m a
  | 0, _, _ => rfl
  | m + 1, a, h => by simp only [sumF]; rw [h a (by omega) (by omega), sumF_congr m (a + 1) (fun k h1 h2 => h k (by omega) (by omega))]
theorem sumF_zero : ∀ m a, sumF (fun _ => 0) m a = 0
  | 0, _ => rfl
  | m + 1, a => by simp only [sumF]; rw [sumF_zero m (a + 1)]; rfl
theorem sumF_nonneg {f : Nat → Int} (h : ∀ k, 0 ≤ f k) : ∀ m a, 0 ≤ sumF f m a
  | 0, _ => Int.le_refl _
  | m + 1, a => by simp only [sumF]; have := h a; have := sumF_nonneg h m (a + 1); omega
theorem sumF_ge {f : Nat → Int} (h : ∀ k, 0 ≤ f k) : ∀ (m a j : Nat), a ≤ j → j < a + m → f j ≤ sumF f m a
  | 0, _, _, _, _ => by omega
  | m + 1, a, j, h1, h2 => by
    simp only [sumF]
    rcases Nat.eq_or_lt_of_le h1 with rfl | h3
    · have := sumF_nonneg h m (a + 1); omega
    · have := sumF_ge h m (a + 1) j (by omega) (by omega); have := h a; omega
theorem sumF_one {P : Nat → Bool} : ∀ (m a : Nat), (∀ i j, a ≤ i → i < a + m → a ≤ j → j < a + m → P i = true → P j = true → i = j) → sumF (fun k => if P k = true then 1 else 0) m a ≤ 1
  | 0, _, _ => by simp [sumF]
  | m + 1, a, h => by
    simp only [sumF]
    have ih := sumF_one m (a + 1) (fun i j h1 h2 h3 h4 => h i j (by omega) (by omega) (by omega) (by omega))
    by_cases hp : P a = true
    · rw [if_pos hp]
      have : sumF (fun k => if P k = true then 1 else 0) m (a + 1) = sumF (fun _ => 0) m (a + 1) := sumF_congr m (a + 1) (fun k h1 h2 => if_neg (fun hk => by
        have := h a k (by omega) (by omega) (by omega) (by omega) hp hk; omega))
      rw [this, sumF_zero]; omega
    · rw [if_neg hp]; omega
theorem count_ge (P : Nat → List Int → Bool) (n : Nat) : ∀ E : List (List Int), (∀ e ∈ E, ∃ a, a < n ∧ P a e = true) → (E.length : Int) ≤ sumF (fun a => ((E.countP (P a) : Nat) : Int)) n 0
  | [], _ => by simp only [List.countP_nil]; rw [show (fun (_ : Nat) => ((0 : Nat) : Int)) = fun _ => 0 from rfl, sumF_zero]; simp
  | e :: E, h => by
    have ih := count_ge P n E (fun x hx => h x (by simp [hx]))
    obtain ⟨a, ha, hp⟩ := h e (by simp)
    have h1 : sumF (fun a => (((e :: E).countP (P a) : Nat) : Int)) n 0 = sumF (fun a => ((E.countP (P a) : Nat) : Int)) n 0 + sumF (fun a => if P a e = true then 1 else 0) n 0 := by
      rw [← sumF_add]
      refine sumF_congr n 0 (fun k _ _ => ?_)
      rw [List.countP_cons]
      split <;> simp
    have h2 := sumF_ge (f := fun a => if P a e = true then 1 else 0) (fun k => by split <;> decide) n 0 a (by omega) (by omega)
    simp only [hp, if_true] at h2
    rw [h1, List.length_cons]; omega
theorem count_le (P : Nat → List Int → Bool) (n : Nat) : ∀ E : List (List Int), (∀ e ∈ E, ∀ i j, i < n → j < n → P i e = true → P j e = true → i = j) → sumF (fun a => ((E.countP (P a) : Nat) : Int)) n 0 ≤ (E.length : Int)
  | [], _ => by simp only [List.countP_nil]; rw [show (fun (_ : Nat) => ((0 : Nat) : Int)) = fun _ => 0 from rfl, sumF_zero]; simp
  | e :: E, h => by
    have ih := count_le P n E (fun x hx => h x (by simp [hx]))
    have h1 : sumF (fun a => (((e :: E).countP (P a) : Nat) : Int)) n 0 = sumF (fun a => ((E.countP (P a) : Nat) : Int)) n 0 + sumF (fun a => if P a e = true then 1 else 0) n 0 := by
      rw [← sumF_add]
      refine sumF_congr n 0 (fun k _ _ => ?_)
      rw [List.countP_cons]
      split <;> simp
    have h2 := sumF_one (P := fun a => P a e) n 0 (fun i j _ h2 _ h4 => h e (by simp) i j (by omega) (by omega))
    rw [h1, List.length_cons]; omega

/-! ### Places -/
theorem sum_addAt : ∀ (l : List Int) (k : Nat) (v : Int), k < l.length → (addAt l k v).sum = l.sum + v
  | [], _, _, h => by simp at h
  | x :: l, 0, v, _ => by simp [addAt]; omega
  | x :: l, k + 1, v, h => by
    have e : addAt (x :: l) (k + 1) v = x :: addAt l k v := by simp [addAt]
    rw [e, List.sum_cons, List.sum_cons, sum_addAt l k v (by simpa using h)]; omega
theorem places_sum (pts : List Int) (games : List (List Int)) (c : Nat) (hc : c < pts.length) : ∀ (E : List (List Int)) (out : List Int), out.length = pts.length → (places pts games c out E).sum = out.sum + (E.length : Int)
  | [], out, _ => by simp [places]
  | e :: E, out, hl => by
    have h1 : moreOf ((afterD pts games e).getD c 0) 0 (afterD pts games e) < out.length := by
      have := moreOf_lt ((afterD pts games e).getD c 0) (afterD pts games e) 0 (by
        have hcl : c < (afterD pts games e).length := by rw [afterD_len]; exact hc
        rw [List.getD_eq_getElem?_getD, List.getElem?_eq_getElem hcl]; exact List.getElem_mem hcl)
      rw [afterD_len] at this; omega
    rw [places, places_sum pts games c hc E _ (by rw [addAt_len]; exact hl), sum_addAt _ _ _ h1, List.length_cons]; omega
theorem places_bound (pts : List Int) (games : List (List Int)) (c : Nat) : ∀ (E : List (List Int)) (out : List Int) (b : Int), 0 ≤ b → (∀ x ∈ out, 0 ≤ x ∧ x ≤ b) → ∀ x ∈ places pts games c out E, 0 ≤ x ∧ x ≤ b + (E.length : Int)
  | [], out, b, _, h, x, hx => by have := h x hx; simp; omega
  | e :: E, out, b, hb, h, x, hx => by
    rw [places] at hx
    have := places_bound pts games c E _ (b + 1) (by omega) (addAt_bound1 h hb) x hx
    rw [List.length_cons]; omega

section
variable {pts : List Int} {games : List (List Int)}
theorem of_day (h : dayOk pts games = true) {a : Nat} (ha : a < pts.length) : ofDay pts games a = true := by
  simp only [ofDay, h, Bool.true_and, inR, Bool.and_eq_true, decide_eq_true_eq]; omega
theorem ld_few (h : dayOk pts games = true) : games.length ≤ 4 ∧ 2 ≤ pts.length ∧ pts.length ≤ 8 := by
  simp only [dayOk, Bool.and_eq_true, decide_eq_true_eq] at h
  have h1 := inR_true h.1
  omega
theorem ld_all {g : Nat} (h : g ≤ 4) : 1 ≤ 3 ^ g ∧ 3 ^ g ≤ 81 := by
  have : g = 0 ∨ g = 1 ∨ g = 2 ∨ g = 3 ∨ g = 4 := by omega
  rcases this with rfl | rfl | rfl | rfl | rfl <;> decide
theorem ld_places (h : dayOk pts games = true) {a : Nat} (ha : a < pts.length) :
    (placesF pts games a).length = pts.length ∧ (placesF pts games a).sum = ((3 ^ games.length : Nat) : Int) ∧ (placesF pts games a).getD 0 0 = firstF pts games a ∧ ∀ x ∈ placesF pts games a, 0 ≤ x ∧ x ≤ 81 := by
  have hd := of_day h ha
  obtain ⟨f1, f2, f3⟩ := ld_few h
  obtain ⟨g1, g2⟩ := ld_all f1
  refine ⟨placesF_len hd, ?_, by rw [firstF, if_pos hd], fun x hx => ?_⟩
  · rw [placesF, if_pos hd, Int.toNat_natCast, places_sum _ _ _ ha _ _ (by simp), endF_length]
    have : (List.replicate pts.length (0 : Int)).sum = 0 := by
      induction pts.length with
      | zero => rfl
      | succ n ih => rw [List.replicate_succ, List.sum_cons, ih]; rfl
    rw [this]; omega
  · rw [placesF, if_pos hd] at hx
    have := places_bound pts games _ _ _ 0 (Int.le_refl _) (fun x hx => by rw [List.mem_replicate] at hx; omega) x hx
    rw [endF_length] at this; omega
theorem goodE_iff (c : Nat) (e : List Int) : goodE pts games c e = true ↔ ∀ v ∈ afterD pts games e, v ≤ (afterD pts games e).getD c 0 := by
  rw [goodE, decide_eq_true_eq, moreOf_zero]; simp
theorem isAlone_good {c : Nat} {e : List Int} (h : isAlone pts games c e = true) : goodE pts games c e = true := by
  rw [isAlone, decide_eq_true_eq] at h
  rw [goodE, decide_eq_true_eq]; omega
theorem isAlone_one {i j : Nat} {e : List Int} (hi : i < pts.length) (hj : j < pts.length) (h1 : isAlone pts games i e = true) (h2 : isAlone pts games j e = true) : i = j := by
  have g1 := (goodE_iff i e).1 (isAlone_good h1)
  have g2 := (goodE_iff j e).1 (isAlone_good h2)
  rw [isAlone, decide_eq_true_eq] at h1
  have h3 := (sameOf_zero ((afterD pts games e).getD i 0) i (afterD pts games e) 0 0).1 (by omega)
  have hil : i < (afterD pts games e).length := by rw [afterD_len]; exact hi
  have hjl : j < (afterD pts games e).length := by rw [afterD_len]; exact hj
  obtain ⟨x, hx⟩ := some_of hil
  obtain ⟨y, hy⟩ := some_of hjl
  have ex : (afterD pts games e).getD i 0 = x := by rw [List.getD_eq_getElem?_getD, hx]; rfl
  have ey : (afterD pts games e).getD j 0 = y := by rw [List.getD_eq_getElem?_getD, hy]; rfl
  have a1 := g1 y (List.mem_of_getElem? hy)
  have a2 := g2 x (List.mem_of_getElem? hx)
  rw [ex] at a1
  rw [ey] at a2
  have := h3.2 j y hy (by rw [ex]; omega)
  omega
theorem good_ex (hn : 0 < pts.length) (e : List Int) : ∃ a, a < pts.length ∧ goodE pts games a e = true := by
  have hl : (afterD pts games e).length = pts.length := afterD_len _ _ _
  cases hx : afterD pts games e with
  | nil => rw [hx] at hl; simp at hl; omega
  | cons x xs =>
    have hm : ∃ v ∈ (x :: xs), ∀ u ∈ (x :: xs), u ≤ v := by
      refine ⟨maxOf x xs, ?_, fun u hu => ?_⟩
      · rcases maxOf_mem xs x with h | h
        · rw [h]; simp
        · simp [h]
      · have := (maxOf_le xs x (maxOf x xs)).1 (Int.le_refl _)
        rcases List.mem_cons.1 hu with rfl | hu
        · exact this.1
        · exact this.2 u hu
    obtain ⟨v, hv, hall⟩ := hm
    obtain ⟨a, ha⟩ := List.getElem?_of_mem hv
    refine ⟨a, by rw [← hl, hx]; exact lt_of ha, (goodE_iff a e).2 (fun u hu => ?_)⟩
    rw [hx] at hu ⊢
    rw [List.getD_eq_getElem?_getD, ha]
    exact hall u hu
theorem firstF_count (h : dayOk pts games = true) {a : Nat} (ha : a < pts.length) : firstF pts games a = (((endF games.length).countP (goodE pts games a) : Nat) : Int) := by
  rw [firstF_eq (of_day h ha) ha, List.countP_eq_length_filter]
theorem aloneF_count (h : dayOk pts games = true) {a : Nat} (ha : a < pts.length) : aloneF pts games a = (((endF games.length).countP (isAlone pts games a) : Nat) : Int) := by
  rw [aloneF, if_pos (of_day h ha), Int.toNat_natCast]
theorem ld_bounds (h : dayOk pts games = true) {a : Nat} (ha : a < pts.length) : 0 ≤ aloneF pts games a ∧ aloneF pts games a ≤ firstF pts games a ∧ firstF pts games a ≤ ((3 ^ games.length : Nat) : Int) := by
  rw [firstF_count h ha, aloneF_count h ha]
  have h1 := List.countP_mono_left (l := endF games.length) (p := isAlone pts games a) (q := goodE pts games a) (fun e _ he => isAlone_good he)
  have h2 := List.countP_le_length (p := goodE pts games a) (l := endF games.length)
  rw [endF_length] at h2
  omega
theorem ld_first (h : dayOk pts games = true) : ((3 ^ games.length : Nat) : Int) ≤ sumF (fun a => firstF pts games a) pts.length 0 := by
  obtain ⟨f1, f2, f3⟩ := ld_few h
  have h1 := count_ge (fun a => goodE pts games a) pts.length (endF games.length) (fun e _ => good_ex (by omega) e)
  rw [endF_length] at h1
  rw [sumF_congr (g := fun a => (((endF games.length).countP (goodE pts games a) : Nat) : Int)) _ _ (fun k _ hk => firstF_count h (by omega))]
  exact h1
theorem ld_alone (h : dayOk pts games = true) : sumF (fun a => aloneF pts games a) pts.length 0 ≤ ((3 ^ games.length : Nat) : Int) := by
  have h1 := count_le (fun a => isAlone pts games a) pts.length (endF games.length) (fun e _ i j hi hj h1 h2 => isAlone_one hi hj h1 h2)
  rw [endF_length] at h1
  rw [sumF_congr (g := fun a => (((endF games.length).countP (isAlone pts games a) : Nat) : Int)) _ _ (fun k _ hk => aloneF_count h (by omega))]
  exact h1
theorem sumF_two {f : Nat → Int} (h : ∀ k, 0 ≤ f k) : ∀ (m a i j : Nat), a ≤ i → i < j → j < a + m → f i + f j ≤ sumF f m a
  | 0, _, _, _, _, _, _ => by omega
  | m + 1, a, i, j, h1, h2, h3 => by
    simp only [sumF]
    rcases Nat.eq_or_lt_of_le h1 with rfl | h4
    · have := sumF_ge h m (a + 1) j (by omega) (by omega); omega
    · have := sumF_two h m (a + 1) i j (by omega) h2 (by omega); have := h a; omega
theorem sumF_pos {f : Nat → Int} : ∀ (m a : Nat), 0 < sumF f m a → ∃ j, a ≤ j ∧ j < a + m ∧ 0 < f j
  | 0, a, h => by simp [sumF] at h
  | m + 1, a, h => by
    by_cases h0 : 0 < f a
    · exact ⟨a, Nat.le_refl _, by omega, h0⟩
    · simp only [sumF] at h
      obtain ⟨j, h1, h2, h3⟩ := sumF_pos (f := f) m (a + 1) (by omega)
      exact ⟨j, by omega, by omega, h3⟩
theorem dec_spec (P : Nat → Bool) : ∀ f k, (decFrom P f k = -1 ∧ ∀ j, k ≤ j → j < k + f → P j = false) ∨ ∃ j : Nat, k ≤ j ∧ j < k + f ∧ decFrom P f k = (j : Int) ∧ P j = true
  | 0, k => .inl ⟨rfl, fun j h1 h2 => by omega⟩
  | f + 1, k => by
    rw [decFrom]
    by_cases h : P k = true
    · rw [if_pos h]; exact .inr ⟨k, Nat.le_refl _, by omega, rfl, h⟩
    · rw [if_neg h]
      rcases dec_spec P f (k + 1) with ⟨h1, h2⟩ | ⟨j, h1, h2, h3, h4⟩
      · refine .inl ⟨h1, fun j h3 h4 => ?_⟩
        rcases Nat.eq_or_lt_of_le h3 with rfl | h5
        · simpa using h
        · exact h2 j (by omega) (by omega)
      · exact .inr ⟨j, by omega, by omega, h3, h4⟩
/-- The same sum, of numbers that are nowhere negative. -/
def alP (pts : List Int) (games : List (List Int)) (k : Nat) : Int := if k < pts.length then aloneF pts games k else 0
theorem alP_eq {k : Nat} (hk : k < pts.length) : alP pts games k = aloneF pts games k := if_pos hk
theorem alP_nonneg (h : dayOk pts games = true) (k : Nat) : 0 ≤ alP pts games k := by
  unfold alP
  split
  · rename_i hk; exact (ld_bounds h hk).1
  · exact Int.le_refl _
theorem alP_sum (pts : List Int) (games : List (List Int)) : sumF (fun a => aloneF pts games a) pts.length 0 = sumF (alP pts games) pts.length 0 := sumF_congr _ _ (fun k _ hk => (alP_eq (by omega)).symm)
theorem decidedF_spec (h : dayOk pts games = true) : (decidedF pts games = -1 ∧ ∀ j : Nat, j < pts.length → aloneF pts games j ≠ ((3 ^ games.length : Nat) : Int)) ∨ ∃ j : Nat, j < pts.length ∧ decidedF pts games = (j : Int) ∧ aloneF pts games j = ((3 ^ games.length : Nat) : Int) := by
  have e : decidedF pts games = decFrom (fun k => decide (aloneF pts games k = ((3 ^ games.length : Nat) : Int))) pts.length 0 := by
    rw [decidedF, if_pos h, countF, if_pos h]
  rw [e]
  rcases dec_spec (fun k => decide (aloneF pts games k = ((3 ^ games.length : Nat) : Int))) pts.length 0 with ⟨h1, h2⟩ | ⟨j, h1, h2, h3, h4⟩
  · exact .inl ⟨h1, fun j hj => by simpa using h2 j (by omega) (by omega)⟩
  · exact .inr ⟨j, by omega, h3, by simpa using h4⟩
theorem ld_dec (h : dayOk pts games = true) {a : Nat} (ha : a < pts.length) : aloneF pts games a = ((3 ^ games.length : Nat) : Int) ↔ decidedF pts games = (a : Int) := by
  obtain ⟨f1, f2, f3⟩ := ld_few h
  obtain ⟨g1, g2⟩ := ld_all f1
  rcases decidedF_spec h with ⟨h1, h2⟩ | ⟨j, hj, h1, h2⟩
  · constructor
    · intro e; exact absurd e (h2 a ha)
    · intro e; omega
  · constructor
    · intro e
      have hs := ld_alone h
      rw [alP_sum] at hs
      rcases Nat.lt_trichotomy j a with hja | hja | hja
      · have := sumF_two (alP_nonneg h) pts.length 0 j a (by omega) hja (by omega)
        rw [alP_eq hj, alP_eq ha] at this; omega
      · rw [h1, hja]
      · have := sumF_two (alP_nonneg h) pts.length 0 a j (by omega) hja (by omega)
        rw [alP_eq hj, alP_eq ha] at this; omega
    · intro e
      have : j = a := by omega
      rw [← this]; exact h2
theorem ld_fin (h : dayOk pts games = true) : 0 ≤ decidedF pts games ∨ sumF (fun a => aloneF pts games a) pts.length 0 < ((3 ^ games.length : Nat) : Int) ∨ 1 < ((3 ^ games.length : Nat) : Int) := by
  obtain ⟨f1, f2, f3⟩ := ld_few h
  obtain ⟨g1, g2⟩ := ld_all f1
  rcases decidedF_spec h with ⟨h1, h2⟩ | ⟨j, hj, h1, h2⟩
  · by_cases hs : sumF (fun a => aloneF pts games a) pts.length 0 < ((3 ^ games.length : Nat) : Int)
    · exact .inr (.inl hs)
    · by_cases h3 : 1 < ((3 ^ games.length : Nat) : Int)
      · exact .inr (.inr h3)
      · rw [alP_sum] at hs
        obtain ⟨j, _, hj, hp⟩ := sumF_pos pts.length 0 (by omega : 0 < sumF (alP pts games) pts.length 0)
        have hj' : j < pts.length := by omega
        rw [alP_eq hj'] at hp
        have h4 := ld_bounds h hj'
        exact absurd (by omega) (h2 j hj')
  · exact .inl (by omega)

/-! ### The first ending -/
theorem need_three (c : Nat) : ∀ (E : List (List Int)) (f : Bool), needFrom pts games c f E = true → ∀ e ∈ E, goodE pts games c e = true → threeE pts games c e = true
  | [], _, _, e, he, _ => by simp at he
  | x :: E, f, h, e, he, hg => by
    rw [needFrom] at h
    rcases List.mem_cons.1 he with rfl | he
    · rw [if_pos hg] at h
      by_cases ht : threeE pts games c e = true
      · exact ht
      · rw [if_neg ht] at h; cases h
    · by_cases hx : goodE pts games c x = true
      · rw [if_pos hx] at h
        by_cases ht : threeE pts games c x = true
        · rw [if_pos ht] at h; exact need_three c E true h e he hg
        · rw [if_neg ht] at h; cases h
      · rw [if_neg hx] at h; exact need_three c E f h e he hg
theorem ld_some (h : dayOk pts games = true) {a : Nat} (ha : a < pts.length) {e : List Int} (he : firstEnd pts games a = some e) :
    0 < firstF pts games a ∧ e.length = games.length ∧ (afterDayF pts games e).length = pts.length ∧ (∀ v ∈ afterDayF pts games e, v ≤ (afterDayF pts games e).getD a 0) ∧ (needF pts games a = true → (afterDayF pts games e).getD a 0 = pts.getD a 0 + 3) := by
  have hd := of_day h ha
  rw [firstEnd, if_pos hd, Int.toNat_natCast] at he
  have hm := List.mem_of_find?_eq_some he
  have hg : goodE pts games a e = true := by have := List.find?_some he; exact this
  obtain ⟨h1, h2⟩ := endF_row _ e hm
  have ea : afterDayF pts games e = afterD pts games e := by
    rw [afterDayF, if_pos ⟨h, h1, by rw [List.all_eq_true]; intro v hv; have := h2 v hv; simp only [inR, Bool.and_eq_true, decide_eq_true_eq]; omega⟩]
  rw [ea]
  refine ⟨?_, h1, afterD_len _ _ _, (goodE_iff a e).1 hg, fun hn => ?_⟩
  · rw [firstF_count h ha]
    have := List.countP_pos_iff.2 ⟨e, hm, hg⟩
    omega
  · rw [needF, if_pos hd, Int.toNat_natCast] at hn
    have := need_three a _ _ hn e hm hg
    rw [threeE, decide_eq_true_eq] at this
    exact this
theorem ld_none (h : dayOk pts games = true) {a : Nat} (ha : a < pts.length) (he : firstEnd pts games a = none) : firstF pts games a = 0 ∧ needF pts games a = false := by
  have hd := of_day h ha
  rw [firstEnd, if_pos hd, Int.toNat_natCast, List.find?_eq_none] at he
  have h0 : (endF games.length).countP (goodE pts games a) = 0 := by
    rw [List.countP_eq_zero]; intro e hm; exact he e hm
  refine ⟨by rw [firstF_count h ha, h0]; rfl, ?_⟩
  rw [needF, if_pos hd, Int.toNat_natCast]
  exact need_none pts games a _ false (by rw [← List.countP_eq_length_filter]; exact h0)
end
end Go.Proofs.Yteigcfcabmoghaa
