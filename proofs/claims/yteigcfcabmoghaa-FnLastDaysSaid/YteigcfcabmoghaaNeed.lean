/- What NeedsWin answers, in plain Lean: no program in sight. -/
import Derived.Test.YteigcfcabmoghaaDayC
namespace Go.Proofs.Yteigcfcabmoghaa
set_option linter.unusedSimpArgs false
set_option linter.unusedVariables false
open Go.RowKit

def goodE (pts : List Int) (games : List (List Int)) (c : Nat) (e : List Int) : Bool := decide (moreOf ((afterD pts games e).getD c 0) 0 (afterD pts games e) = 0)
def threeE (pts : List Int) (games : List (List Int)) (c : Nat) (e : List Int) : Bool := decide ((afterD pts games e).getD c 0 = pts.getD c 0 + 3)
def needFrom (pts : List Int) (games : List (List Int)) (c : Nat) : Bool → List (List Int) → Bool
  | f, [] => f
  | f, e :: E => if goodE pts games c e = true then (if threeE pts games c e = true then needFrom pts games c true E else false) else needFrom pts games c f E
def needF (pts : List Int) (games : List (List Int)) (k : Int) : Bool := if ofDay pts games k = true then needFrom pts games k.toNat false (endF games.length) else false
def needI (pts : List Int) (games : List (List Int)) (c j : Nat) (win : Int) : List (List Int) → Bool
  | [] => true
  | e :: E => if goodE pts games c e = true ∧ e.getD j 0 ≠ win then false else needI pts games c j win E
theorem addAt_get (l : List Int) (i j : Nat) (v : Int) (hi : i < l.length) : (addAt l i v).getD j 0 = if i = j then l.getD j 0 + v else l.getD j 0 := by
  rw [addAt, List.getD_eq_getElem?_getD, List.getElem?_set]
  by_cases h : i = j
  · subst h
    rw [if_pos rfl, if_pos hi, if_pos rfl]; rfl
  · rw [if_neg h, if_neg h, List.getD_eq_getElem?_getD]
theorem places_zero (pts : List Int) (games : List (List Int)) (c : Nat) : ∀ (E : List (List Int)) (out : List Int), out.length = pts.length → 0 < pts.length → c < pts.length →
    (places pts games c out E).getD 0 0 = out.getD 0 0 + ((E.filter (goodE pts games c)).length : Int)
  | [], out, _, _, _ => by simp [places]
  | e :: E, out, hl, h0, hc => by
    have hm : moreOf ((afterD pts games e).getD c 0) 0 (afterD pts games e) < pts.length := by
      have hlen := afterD_len games e pts
      have := moreOf_lt ((afterD pts games e).getD c 0) (afterD pts games e) 0 (getD_mem (by omega) rfl)
      omega
    rw [places, places_zero pts games c E _ (by rw [addAt_len]; exact hl) h0 hc, addAt_get _ _ _ _ (by omega), List.filter_cons]
    by_cases hg : moreOf ((afterD pts games e).getD c 0) 0 (afterD pts games e) = 0
    · rw [if_pos hg, if_pos (by rw [goodE]; exact decide_eq_true hg), List.length_cons]; omega
    · rw [if_neg hg, if_neg (by rw [goodE, decide_eq_true_eq]; exact hg)]
theorem need_none (pts : List Int) (games : List (List Int)) (c : Nat) : ∀ (E : List (List Int)) (f : Bool), (E.filter (goodE pts games c)).length = 0 → needFrom pts games c f E = f
  | [], f, _ => rfl
  | e :: E, f, h => by
    rw [List.filter_cons] at h
    by_cases hg : goodE pts games c e = true
    · rw [if_pos hg] at h; simp at h
    · rw [if_neg hg] at h
      rw [needFrom, if_neg hg]
      exact need_none pts games c E f h
theorem need_never (pts : List Int) (games : List (List Int)) (c : Nat) : ∀ (E : List (List Int)), (∀ e ∈ E, threeE pts games c e = false) → needFrom pts games c false E = false
  | [], _ => rfl
  | e :: E, h => by
    rw [needFrom]
    split
    · rw [if_neg (by rw [h e (by simp)]; simp)]
    · exact need_never pts games c E (fun e' he => h e' (by simp [he]))
theorem need_win (pts : List Int) (games : List (List Int)) (c j : Nat) (win : Int) : ∀ (E : List (List Int)) (f : Bool), (∀ e ∈ E, threeE pts games c e = true ↔ e.getD j 0 = win) → (f = true ∨ (E.filter (goodE pts games c)).length ≠ 0) →
    needFrom pts games c f E = needI pts games c j win E
  | [], f, _, h => by
    rcases h with h | h
    · rw [needFrom, needI, h]
    · simp at h
  | e :: E, f, he, h => by
    have h1 := he e (by simp)
    rw [needFrom, needI]
    by_cases hg : goodE pts games c e = true
    · rw [if_pos hg]
      by_cases ht : threeE pts games c e = true
      · rw [if_pos ht, if_neg (by intro hh; exact hh.2 (h1.1 ht))]
        exact need_win pts games c j win E true (fun e' h' => he e' (by simp [h'])) (.inl rfl)
      · rw [if_neg ht, if_pos ⟨hg, fun hh => ht (h1.2 hh)⟩]
    · rw [if_neg hg, if_neg (fun hh => hg hh.1)]
      rw [List.filter_cons, if_neg hg] at h
      exact need_win pts games c j win E f (fun e' h' => he e' (by simp [h'])) h

/-! ### What a club gains -/
def gain (c : Nat) : List (List Int) → List Int → Int
  | g :: L, e :: E => if g.getD 0 0 = (c : Int) then ptA e else if g.getD 1 0 = (c : Int) then ptB e else gain c L E
  | _, _ => 0
theorem dayGames_cons {n : Nat} {g : List Int} {L : List (List Int)} {seen : List Int} (h : dayGames n (g :: L) seen = true) :
    ∃ x y : Nat, g = [(x : Int), (y : Int)] ∧ x < n ∧ y < n ∧ x ≠ y ∧ (x : Int) ∉ seen ∧ (y : Int) ∉ seen ∧ dayGames n L (seen ++ [(x : Int)] ++ [(y : Int)]) = true := by
  simp only [dayGames, Bool.and_eq_true, decide_eq_true_eq] at h
  obtain ⟨h1, h2, h3⟩ := h
  obtain ⟨x, y, rfl⟩ := two_of h1
  simp only [List.all_cons, List.all_nil, Bool.and_true, Bool.and_eq_true] at h2
  have a := inR_true h2.1
  have b := inR_true h2.2
  obtain ⟨x, rfl⟩ := Int.eq_ofNat_of_zero_le a.1
  obtain ⟨y, rfl⟩ := Int.eq_ofNat_of_zero_le b.1
  simp only [addAll, Bool.and_eq_true, Bool.not_eq_true', decide_eq_false_iff_not] at h3
  obtain ⟨h4, h5, h6⟩ := h3
  refine ⟨x, y, rfl, by omega, by omega, fun e => h5 (by simp [e]), h4, fun e => h5 (by simp [e]), h6⟩
theorem gain_seen {n c : Nat} : ∀ (L : List (List Int)) (E : List Int) (seen : List Int), dayGames n L seen = true → (c : Int) ∈ seen → gain c L E = 0
  | [], _, _, _, _ => by rw [gain]; intro _ _ _ _ h; cases h
  | _ :: _, [], _, _, _ => by rw [gain]; intro _ _ _ _ _ h; cases h
  | g :: L, e :: E, seen, h, hc => by
    obtain ⟨x, y, rfl, hx, hy, hxy, hs1, hs2, hr⟩ := dayGames_cons h
    have c1 : ¬ (x : Int) = (c : Int) := fun hh => hs1 (by rw [hh]; exact hc)
    have c2 : ¬ (y : Int) = (c : Int) := fun hh => hs2 (by rw [hh]; exact hc)
    rw [gain]
    simp only [List.getD_cons_zero, List.getD_cons_succ, if_neg c1, if_neg c2]
    exact gain_seen L E _ hr (by simp [hc])
theorem after_gain {n c : Nat} : ∀ (L : List (List Int)) (E : List Int) (out seen : List Int), dayGames n L seen = true → out.length = n → c < n → (afterD out L E).getD c 0 = out.getD c 0 + gain c L E
  | [], E, out, seen, _, _, _ => by
    rw [afterD, gain]
    · omega
    · intro _ _ _ _ h; cases h
  | _ :: _, [], out, seen, _, _, _ => by
    rw [afterD, gain]
    · omega
    · intro _ _ _ _ _ h; cases h
  | g :: L, e :: E, out, seen, h, hl, hc => by
    obtain ⟨x, y, rfl, hx, hy, hxy, hs1, hs2, hr⟩ := dayGames_cons h
    rw [afterD, gain]
    simp only [List.getD_cons_zero, List.getD_cons_succ, Int.toNat_natCast]
    rw [after_gain L E _ _ hr (by rw [addAt_len, addAt_len]; exact hl) hc, addAt_get _ _ _ _ (by rw [addAt_len]; omega), addAt_get _ _ _ _ (by omega)]
    by_cases e1 : x = c
    · subst e1
      rw [if_neg (by omega), if_pos rfl, if_pos rfl, gain_seen L E _ hr (by simp)]; omega
    · have e1' : ¬ (x : Int) = (c : Int) := by omega
      by_cases e2 : y = c
      · subst e2
        rw [if_pos rfl, if_neg e1, if_neg e1', if_pos rfl, gain_seen L E _ hr (by simp)]; omega
      · have e2' : ¬ (y : Int) = (c : Int) := by omega
        rw [if_neg e2, if_neg e1, if_neg e1', if_neg e2']
def hasC (c : Nat) (g : List Int) : Bool := decide ((c : Int) ∈ g)
theorem gain_none {n c : Nat} : ∀ (L : List (List Int)) (E : List Int) (seen : List Int), dayGames n L seen = true → L.any (hasC c) = false → gain c L E = 0
  | [], _, _, _, _ => by rw [gain]; intro _ _ _ _ h; cases h
  | _ :: _, [], _, _, _ => by rw [gain]; intro _ _ _ _ _ h; cases h
  | g :: L, e :: E, seen, h, hn => by
    obtain ⟨x, y, rfl, _, _, _, _, _, hr⟩ := dayGames_cons h
    rw [List.any_cons, Bool.or_eq_false_iff] at hn
    have h1 := hn.1
    simp only [hasC, List.mem_cons, List.not_mem_nil, or_false, decide_eq_false_iff_not, not_or] at h1
    rw [gain]
    simp only [List.getD_cons_zero, List.getD_cons_succ]
    rw [if_neg (fun hh => h1.1 hh.symm), if_neg (fun hh => h1.2 hh.symm)]
    exact gain_none L E _ hr hn.2
theorem gain_at {n c : Nat} : ∀ (L : List (List Int)) (E : List Int) (seen : List Int) (j : Nat) (g : List Int), dayGames n L seen = true → E.length = L.length → L[j]? = some g → hasC c g = true → (∀ i g', i < j → L[i]? = some g' → hasC c g' = false) →
    gain c L E = if g.getD 0 0 = (c : Int) then ptA (E.getD j 0) else ptB (E.getD j 0)
  | [], _, _, j, g, _, _, hj, _, _ => by simp at hj
  | _ :: _, [], _, _, _, _, hl, _, _, _ => by simp at hl
  | g0 :: L, e :: E, seen, 0, g, h, hl, hj, hg, _ => by
    simp only [List.getElem?_cons_zero, Option.some.injEq] at hj
    subst hj
    obtain ⟨x, y, rfl, _, _, _, _, _, _⟩ := dayGames_cons h
    simp only [hasC, List.mem_cons, List.not_mem_nil, or_false, decide_eq_true_eq] at hg
    rw [gain]
    simp only [List.getD_cons_zero, List.getD_cons_succ]
    by_cases e1 : (x : Int) = (c : Int)
    · rw [if_pos e1, if_pos e1]
    · rw [if_neg e1, if_neg e1]
      rcases hg with hg | hg
      · exact absurd hg.symm e1
      · rw [if_pos hg.symm]
  | g0 :: L, e :: E, seen, j + 1, g, h, hl, hj, hg, hf => by
    obtain ⟨x, y, rfl, _, _, _, _, _, hr⟩ := dayGames_cons h
    have h0 := hf 0 _ (by omega) rfl
    simp only [hasC, List.mem_cons, List.not_mem_nil, or_false, decide_eq_false_iff_not, not_or] at h0
    rw [gain]
    simp only [List.getD_cons_zero, List.getD_cons_succ]
    rw [if_neg (fun hh => h0.1 hh.symm), if_neg (fun hh => h0.2 hh.symm)]
    exact gain_at L E _ j g hr (by simpa using hl) (by simpa using hj) hg (fun i g' hi hg' => hf (i + 1) g' (by omega) (by simpa using hg'))
theorem ptA_three {e : Int} (h0 : 0 ≤ e) (h2 : e ≤ 2) : ptA e = 3 ↔ e = 0 := by unfold ptA; split <;> (try split) <;> omega
theorem ptB_three {e : Int} (h0 : 0 ≤ e) (h2 : e ≤ 2) : ptB e = 3 ↔ e = 2 := by unfold ptB; split <;> (try split) <;> omega
end Go.Proofs.Yteigcfcabmoghaa
