/- What the law on ties wants of the sums of a league, club by club. No program in sight. -/
import Derived.Test.YtehlijpjcjegcaaMedI
import Derived.Test.YtehlijpjcjegcaaProS
import Derived.Test.YtehlijpjcjegcaaFairP
namespace Go.Proofs.Ytehlijpjcjegcaa
set_option linter.unusedVariables false
set_option linter.unusedSimpArgs false
open Go.RowKit

def at2 (r : Res) (k : Nat) (x y : Int) : Int := if (k : Int) = r.h then x else if (k : Int) = r.a then y else 0
def sumAt (g : Res → Int) : List Res → Int
  | [] => 0
  | r :: t => g r + sumAt g t
def gam (k : Nat) (rs : List Res) : Int := sumAt (fun r => at2 r k 1 1) rs
theorem sumAt_le {f g : Res → Int} : ∀ rs : List Res, (∀ r ∈ rs, f r ≤ g r) → sumAt f rs ≤ sumAt g rs
  | [], _ => Int.le_refl _
  | r :: t, h => by
    have := sumAt_le t (fun r hr => h r (by simp [hr]))
    have := h r (by simp)
    rw [sumAt, sumAt]; omega
theorem sumAt_zero : ∀ rs : List Res, sumAt (fun _ => 0) rs = 0
  | [] => rfl
  | r :: t => by rw [sumAt, sumAt_zero t]; rfl
theorem sumAt_mul (f : Res → Int) (c : Int) : ∀ rs : List Res, sumAt (fun r => c * f r) rs = c * sumAt f rs
  | [] => by simp [sumAt]
  | r :: t => by rw [sumAt, sumAt, sumAt_mul f c t, Int.mul_add]
theorem sumAt_add (f g : Res → Int) : ∀ rs : List Res, sumAt (fun r => f r + g r) rs = sumAt f rs + sumAt g rs
  | [] => rfl
  | r :: t => by rw [sumAt, sumAt, sumAt, sumAt_add f g t]; omega
theorem bump1_at (l : List Int) (i k : Nat) (v : Int) (hi : i < l.length) : (bump1 l i v).getD k 0 = l.getD k 0 + (if i = k then v else 0) := by
  rw [bump1, List.getD_eq_getElem?_getD, List.getElem?_set]
  by_cases e : i = k
  · subst e; rw [if_pos rfl, if_pos hi, if_pos rfl, Option.getD_some]
  · rw [if_neg e, if_neg e, ← List.getD_eq_getElem?_getD]; omega
theorem bump2_at {n : Int} {r : Res} (hr : resOk n r = true) (l : List Int) (hl : (l.length : Int) = n) (k : Nat) (x y : Int) :
    (bump1 (bump1 l r.h.toNat x) r.a.toNat y).getD k 0 = l.getD k 0 + at2 r k x y := by
  have R := resOk_of hr
  have h0 := R.h0; have hn := R.hn; have a0 := R.a0; have an := R.an; have hne := R.ne
  rw [bump1_at _ _ _ _ (by rw [bump1_len]; omega), bump1_at _ _ _ _ (by omega), at2]
  by_cases e1 : (k : Int) = r.h
  · rw [if_pos e1, if_pos (show r.h.toNat = k by omega), if_neg (show ¬ r.a.toNat = k by omega)]; omega
  · by_cases e2 : (k : Int) = r.a
    · rw [if_neg e1, if_pos e2, if_neg (show ¬ r.h.toNat = k by omega), if_pos (show r.a.toNat = k by omega)]; omega
    · rw [if_neg e1, if_neg e2, if_neg (show ¬ r.h.toNat = k by omega), if_neg (show ¬ r.a.toNat = k by omega)]; omega
theorem pt_at {n : Int} (k : Nat) : ∀ (rs : List Res) (l : List Int), (l.length : Int) = n → (∀ r ∈ rs, resOk n r = true) → (ptFold l rs).getD k 0 = l.getD k 0 + sumAt (fun r => at2 r k (ptsH r) (ptsA r)) rs
  | [], l, _, _ => by rw [ptFold, sumAt]; omega
  | r :: t, l, hl, h => by
    rw [ptFold, pt_at k t _ (by rw [ptStep, bump1_len, bump1_len]; exact hl) (fun r hr => h r (by simp [hr])), ptStep, bump2_at (h r (by simp)) l hl, sumAt]; omega
theorem rep_at (n k : Nat) : (List.replicate n (0 : Int)).getD k 0 = 0 := by
  rw [List.getD_eq_getElem?_getD, List.getElem?_replicate]; split <;> rfl
theorem points_at {n : Nat} {rs : List Res} (hL : League n rs) (k : Nat) : (pointsF n rs).getD k 0 = sumAt (fun r => at2 r k (ptsH r) (ptsA r)) rs := by
  rw [pointsF, pt_at (n := (n : Int)) k rs _ (by rw [List.length_replicate]) hL.ok, rep_at]; omega
theorem sum_at {n : Int} (f : Res → Int → Int → Int) (P : List Int) (k : Nat) : ∀ (rs : List Res) (l : List Int), (l.length : Int) = n → (∀ r ∈ rs, resOk n r = true) →
    (sumFold f P l rs).getD k 0 = l.getD k 0 + sumAt (fun r => at2 r k (f r r.h (P.getD r.a.toNat 0)) (f r r.a (P.getD r.h.toNat 0))) rs
  | [], l, _, _ => by rw [sumFold, sumAt]; omega
  | r :: t, l, hl, h => by
    rw [sumFold, sum_at f P k t _ (by rw [sumStep, bump1_len, bump1_len]; exact hl) (fun r hr => h r (by simp [hr])), sumStep, bump2_at (h r (by simp)) l hl, sumAt]; omega
theorem sums_at {n : Nat} {rs : List Res} (hok : leagueOk n rs = true) (f : Res → Int → Int → Int) (k : Nat) :
    (sumsF f n rs).getD k 0 = sumAt (fun r => at2 r k (f r r.h ((pointsF n rs).getD r.a.toNat 0)) (f r r.a ((pointsF n rs).getD r.h.toNat 0))) rs := by
  rw [sumsF, if_pos hok, Int.toNat_natCast, sum_at (n := (n : Int)) f _ k rs _ (by rw [List.length_replicate]) (league_of hok).ok, rep_at]; omega
/-- Weighted sums: from 0 to twice the sum of the opponents' points. -/
theorem out_bd (r : Res) (k : Int) : 0 ≤ outF r.h r.g r.t k ∧ outF r.h r.g r.t k ≤ 2 := by
  have := cmpI_bd (ownG r.h r.g r.t k) (othG r.h r.g r.t k)
  rw [outF]; omega
theorem wei_tie {n : Nat} {rs : List Res} (hok : leagueOk n rs = true) (k : Nat) : 0 ≤ (sumsF fWei n rs).getD k 0 ∧ (sumsF fWei n rs).getD k 0 ≤ 2 * (sumsF fOpp n rs).getD k 0 := by
  have hP := fun i => (points_bd (league_of hok) i).1
  rw [sums_at hok, sums_at hok]
  have hw : ∀ (r : Res) (k' : Int) (i : Nat), 0 ≤ fWei r k' ((pointsF n rs).getD i 0) ∧ fWei r k' ((pointsF n rs).getD i 0) ≤ 2 * (pointsF n rs).getD i 0 := fun r k' i => by
    obtain ⟨o0, o2⟩ := out_bd r k'
    have hp := hP i
    rw [fWei]
    refine ⟨Int.mul_nonneg hp o0, ?_⟩
    rw [Int.mul_comm 2]
    exact Int.mul_le_mul_of_nonneg_left o2 hp
  refine ⟨?_, ?_⟩
  · have := sumAt_le (f := fun _ => 0) (g := fun r => at2 r k (fWei r r.h ((pointsF n rs).getD r.a.toNat 0)) (fWei r r.a ((pointsF n rs).getD r.h.toNat 0))) rs (fun r _ => by
      show 0 ≤ at2 r k _ _
      unfold at2
      split
      · exact (hw _ _ _).1
      · split
        · exact (hw _ _ _).1
        · omega)
    rwa [sumAt_zero] at this
  · rw [← sumAt_mul]
    refine sumAt_le rs (fun r _ => ?_)
    show at2 r k _ _ ≤ 2 * at2 r k _ _
    unfold at2
    split
    · exact (hw _ _ _).2
    · split
      · exact (hw _ _ _).2
      · omega
/-! ### The median sums -/
theorem adds_sum (P : List Int) (k : Nat) : ∀ rs : List Res, (adds P k rs).sum = sumAt (fun r => at2 r k (P.getD r.a.toNat 0) (P.getD r.h.toNat 0)) rs
  | [] => rfl
  | r :: t => by
    rw [adds, List.sum_append, adds_sum P k t, sumAt, at2]
    split
    · simp
    · split <;> simp
theorem adds_len (P : List Int) (k : Nat) : ∀ rs : List Res, ((adds P k rs).length : Int) = gam k rs
  | [] => rfl
  | r :: t => by
    have := adds_len P k t
    rw [gam] at this ⊢
    rw [adds, List.length_append, sumAt, at2]
    split
    · simp; omega
    · split <;> simp <;> omega
theorem minmax_le : ∀ (xs : List Int) (mo le S : Int), 0 ≤ le → le ≤ mo → mo + le ≤ S → (∀ x ∈ xs, 0 ≤ x) → 0 ≤ minOf le xs ∧ 0 ≤ maxOf mo xs ∧ maxOf mo xs + minOf le xs ≤ S + xs.sum
  | [], mo, le, S, h0, h1, h2, _ => by
    rw [minOf, maxOf, List.sum_nil]; omega
  | x :: r, mo, le, S, h0, h1, h2, hx => by
    have x0 := hx x (by simp)
    obtain ⟨i1, i2, i3⟩ := minmax_le r (max mo x) (min le x) (S + x) (by omega) (by omega) (by omega) (fun y hy => hx y (by simp [hy]))
    rw [minOf, maxOf, List.sum_cons]
    exact ⟨i1, i2, by omega⟩
theorem medL_bd {xs : List Int} (h : ∀ x ∈ xs, 0 ≤ x) : 0 ≤ medL xs ∧ medL xs ≤ xs.sum ∧ (xs.length < 3 → medL xs = xs.sum) := by
  have hs : ∀ l : List Int, (∀ x ∈ l, 0 ≤ x) → 0 ≤ l.sum := by
    intro l
    induction l with
    | nil => intro _; exact Int.le_refl _
    | cons y r ih => intro h; have := ih (fun x hx => h x (by simp [hx])); have := h y (by simp); rw [List.sum_cons]; omega
  cases xs with
  | nil => exact ⟨Int.le_refl _, Int.le_refl _, fun _ => rfl⟩
  | cons x r =>
    have hx := hs _ h
    rw [medL]
    by_cases h3 : 3 ≤ r.length + 1
    · rw [if_pos h3]
      cases r with
      | nil => simp at h3
      | cons y t =>
        have x0 := h x (by simp)
        have y0 := h y (by simp)
        obtain ⟨i1, i2, i3⟩ := minmax_le t (max x y) (min x y) (x + y) (by omega) (by omega) (by omega) (fun z hz => h z (by simp [hz]))
        have e1 : maxOf x (y :: t) = maxOf (max x y) t := rfl
        have e2 : minOf x (y :: t) = minOf (min x y) t := rfl
        rw [e1, e2]
        rw [List.sum_cons, List.sum_cons] at hx ⊢
        refine ⟨by omega, by omega, fun hl => ?_⟩
        simp only [List.length_cons] at hl h3
        omega
    · rw [if_neg h3]
      exact ⟨hx, Int.le_refl _, fun _ => rfl⟩
theorem med_tie {n : Nat} {rs : List Res} (hok : leagueOk n rs = true) {k : Nat} (hk : k < n) :
    0 ≤ (medF n rs).getD k 0 ∧ (medF n rs).getD k 0 ≤ (sumsF fOpp n rs).getD k 0 ∧ (gam k rs < 3 → (medF n rs).getD k 0 = (sumsF fOpp n rs).getD k 0) := by
  have hP := fun i => (points_bd (league_of hok) i).1
  have hn : ∀ x ∈ adds (pointsF n rs) k rs, 0 ≤ x := by
    have : ∀ l : List Res, ∀ x ∈ adds (pointsF n rs) k l, 0 ≤ x := by
      intro l
      induction l with
      | nil => intro x hx; simp [adds] at hx
      | cons r t ih =>
        intro x hx
        rw [adds, List.mem_append] at hx
        rcases hx with hx | hx
        · repeat' split at hx
          · simp at hx; rw [hx]; exact hP _
          · simp at hx; rw [hx]; exact hP _
          · simp at hx
        · exact ih x hx
    exact this rs
  have e1 : (medF n rs).getD k 0 = medL (adds (pointsF n rs) k rs) := by
    rw [medF, if_pos hok, Int.toNat_natCast, List.getD_eq_getElem?_getD, List.getElem?_map, List.getElem?_range hk, Option.map_some, Option.getD_some, medFold_all _ hn]
  have e2 : (sumsF fOpp n rs).getD k 0 = (adds (pointsF n rs) k rs).sum := by rw [sums_at hok, adds_sum]; rfl
  have e3 := adds_len (pointsF n rs) k rs
  obtain ⟨h1, h2, h3⟩ := medL_bd hn
  rw [e1, e2]
  exact ⟨h1, h2, fun h => h3 (by omega)⟩
/-! ### Progress -/
def prs (k : Nat) : Int → List Res → Int
  | _, [] => 0
  | p, r :: t => at2 r k (p + at2 r k (ptsH r) (ptsA r)) (p + at2 r k (ptsH r) (ptsA r)) + prs k (p + at2 r k (ptsH r) (ptsA r)) t
theorem pro_at {n : Int} (k : Nat) : ∀ (rs : List Res) (pl ol : List Int), (pl.length : Int) = n → (ol.length : Int) = n → (∀ r ∈ rs, resOk n r = true) → (proFold pl ol rs).getD k 0 = ol.getD k 0 + prs k (pl.getD k 0) rs
  | [], pl, ol, _, _, _ => by rw [proFold, prs]; omega
  | r :: t, pl, ol, h1, h2, h => by
    have hr := h r (by simp)
    have hpl := fun j => bump2_at hr pl h1 j (ptsH r) (ptsA r)
    rw [proFold, pro_at k t _ _ (by rw [bump1_len, bump1_len]; exact h1) (by rw [bump1_len, bump1_len]; exact h2) (fun r hr => h r (by simp [hr])), bump2_at hr ol h2, hpl k, prs]
    have R := resOk_of hr
    have h0 := R.h0; have a0 := R.a0; have hne := R.ne
    have e : at2 r k ((bump1 (bump1 pl r.h.toNat (ptsH r)) r.a.toNat (ptsA r)).getD r.h.toNat 0) ((bump1 (bump1 pl r.h.toNat (ptsH r)) r.a.toNat (ptsA r)).getD r.a.toNat 0) = at2 r k (pl.getD k 0 + at2 r k (ptsH r) (ptsA r)) (pl.getD k 0 + at2 r k (ptsH r) (ptsA r)) := by
      by_cases e1 : (k : Int) = r.h
      · have : r.h.toNat = k := by omega
        simp only [at2, if_pos e1]
        rw [this, ← this, hpl]
        simp only [at2, this, if_pos e1]
      · by_cases e2 : (k : Int) = r.a
        · have : r.a.toNat = k := by omega
          simp only [at2, if_neg e1, if_pos e2]
          rw [this, ← this, hpl]
          simp only [at2, this, if_neg e1, if_pos e2]
        · simp only [at2, if_neg e1, if_neg e2]
    rw [e]; omega
theorem at2_same (r : Res) (k : Nat) (x : Int) : at2 r k x x = x * at2 r k 1 1 := by unfold at2; split <;> (try split) <;> simp
theorem at2_one (r : Res) (k : Nat) : at2 r k 1 1 = 0 ∨ at2 r k 1 1 = 1 := by unfold at2; split <;> (try split) <;> simp
theorem at2_zero {r : Res} {k : Nat} (h : at2 r k 1 1 = 0) (x y : Int) : at2 r k x y = 0 := by
  unfold at2 at h ⊢
  split
  · rename_i e; rw [if_pos e] at h; omega
  · rename_i e; rw [if_neg e] at h
    split
    · rename_i e2; rw [if_pos e2] at h; omega
    · rfl
theorem pt_nonneg (r : Res) (k : Nat) : 0 ≤ at2 r k (ptsH r) (ptsA r) := by
  have := ptsH_bd r; have := ptsA_bd r
  unfold at2; split <;> (try split) <;> omega
theorem prs_bd (k : Nat) : ∀ (rs : List Res) (p : Int), 0 ≤ p → 0 ≤ sumAt (fun r => at2 r k (ptsH r) (ptsA r)) rs ∧ 0 ≤ gam k rs ∧ prs k p rs ≤ gam k rs * (p + sumAt (fun r => at2 r k (ptsH r) (ptsA r)) rs) ∧
    (1 ≤ gam k rs → p + sumAt (fun r => at2 r k (ptsH r) (ptsA r)) rs ≤ prs k p rs) ∧ (gam k rs = 0 → prs k p rs = 0 ∧ sumAt (fun r => at2 r k (ptsH r) (ptsA r)) rs = 0)
  | [], p, hp => by simp [sumAt, gam, prs]
  | r :: t, p, hp => by
    have h0 := pt_nonneg r k
    obtain ⟨i1, i2, i3, i4, i5⟩ := prs_bd k t (p + at2 r k (ptsH r) (ptsA r)) (by omega)
    have eg : gam k (r :: t) = at2 r k 1 1 + gam k t := rfl
    have es : sumAt (fun r => at2 r k (ptsH r) (ptsA r)) (r :: t) = at2 r k (ptsH r) (ptsA r) + sumAt (fun r => at2 r k (ptsH r) (ptsA r)) t := rfl
    rw [eg, es, prs, at2_same r k (p + at2 r k (ptsH r) (ptsA r))]
    generalize sumAt (fun r => at2 r k (ptsH r) (ptsA r)) t = S at *
    generalize gam k t = g at *
    rcases at2_one r k with h1 | h1
    · have hz := at2_zero h1 (ptsH r) (ptsA r)
      rw [hz] at i3 i4 i5 ⊢
      rw [h1]
      simp only [Int.mul_zero, Int.zero_add, Int.add_zero] at i3 i4 i5 ⊢
      exact ⟨i1, i2, i3, i4, i5⟩
    · rw [h1]
      generalize at2 r k (ptsH r) (ptsA r) = x at *
      rw [Int.mul_one, Int.add_mul, Int.one_mul]
      rw [← Int.add_assoc]
      refine ⟨by omega, by omega, by omega, fun _ => ?_, fun h => by omega⟩
      by_cases hg : 1 ≤ g
      · have := i4 hg; omega
      · obtain ⟨j1, j2⟩ := i5 (by omega)
        omega
theorem prog_tie {n : Nat} {rs : List Res} (hok : leagueOk n rs = true) (k : Nat) :
    (pointsF n rs).getD k 0 ≤ (progF n rs).getD k 0 ∧ (progF n rs).getD k 0 ≤ (pointsF n rs).getD k 0 * max 1 (gam k rs) := by
  have hL := league_of hok
  have e1 : (progF n rs).getD k 0 = prs k 0 rs := by
    rw [progF, if_pos hok, Int.toNat_natCast, pro_at (n := (n : Int)) k rs _ _ (by rw [List.length_replicate]) (by rw [List.length_replicate]) hL.ok, rep_at]; omega
  rw [e1, points_at hL]
  obtain ⟨i1, i2, i3, i4, i5⟩ := prs_bd k rs 0 (Int.le_refl _)
  simp only [Int.zero_add] at i3 i4
  by_cases hg : 1 ≤ gam k rs
  · rw [show max 1 (gam k rs) = gam k rs by omega, Int.mul_comm]
    exact ⟨i4 hg, i3⟩
  · obtain ⟨j1, j2⟩ := i5 (by omega)
    rw [j1, j2]; simp
end Go.Proofs.Ytehlijpjcjegcaa
