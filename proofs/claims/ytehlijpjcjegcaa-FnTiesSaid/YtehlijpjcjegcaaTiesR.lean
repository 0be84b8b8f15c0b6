/- What the law on ties wants, third part: all opponents' points together. No program in sight. -/
import Derived.Test.YtehlijpjcjegcaaTiesQ
namespace Go.Proofs.Ytehlijpjcjegcaa
set_option linter.unusedVariables false
set_option linter.unusedSimpArgs false
open Go.RowKit

theorem set_sum : ∀ (l : List Int) (i : Nat) (v : Int), i < l.length → (l.set i (l.getD i 0 + v)).sum = l.sum + v
  | [], i, v, h => by simp at h
  | x :: r, 0, v, _ => by simp; omega
  | x :: r, i + 1, v, h => by
    have := set_sum r i v (by simpa using h)
    rw [List.set_cons_succ, List.sum_cons, List.sum_cons, List.getD_cons_succ, this]; omega
theorem bump1_sum (l : List Int) (i : Nat) (v : Int) (h : i < l.length) : (bump1 l i v).sum = l.sum + v := set_sum l i v h
theorem opp_sum {n : Int} (P : List Int) : ∀ (rs : List Res) (l : List Int), (l.length : Int) = n → (∀ r ∈ rs, resOk n r = true) →
    (sumFold fOpp P l rs).sum = l.sum + sumAt (fun r => P.getD r.h.toNat 0 + P.getD r.a.toNat 0) rs
  | [], l, _, _ => by rw [sumFold, sumAt]; omega
  | r :: t, l, hl, h => by
    have R := resOk_of (h r (by simp))
    have h0 := R.h0; have hn := R.hn; have a0 := R.a0; have an := R.an
    rw [sumFold, opp_sum P t _ (by rw [sumStep, bump1_len, bump1_len]; exact hl) (fun r hr => h r (by simp [hr])), sumStep, bump1_sum _ _ _ (by rw [bump1_len]; omega), bump1_sum _ _ _ (by omega), sumAt, fOpp, fOpp]
    omega
theorem zeros_sum : ∀ n : Nat, (List.replicate n (0 : Int)).sum = 0
  | 0 => rfl
  | n + 1 => by rw [List.replicate_succ, List.sum_cons, zeros_sum n]; rfl
theorem perm_sum {l l' : List Nat} (φ : Nat → Int) (h : l.Perm l') : (l.map φ).sum = (l'.map φ).sum := by
  induction h with
  | nil => rfl
  | cons x _ ih => rw [List.map_cons, List.map_cons, List.sum_cons, List.sum_cons, ih]
  | swap x y l => simp only [List.map_cons, List.sum_cons]; omega
  | trans _ _ ih1 ih2 => exact ih1.trans ih2
theorem range_add (f g : Nat → Int) : ∀ n, ((List.range n).map (fun k => f k + g k)).sum = ((List.range n).map f).sum + ((List.range n).map g).sum
  | 0 => rfl
  | n + 1 => by
    rw [List.range_succ, List.map_append, List.map_append, List.map_append, List.sum_append, List.sum_append, List.sum_append, range_add f g n]
    simp; omega
theorem range_one (f : Nat → Int) (i : Nat) : ∀ n, ((List.range n).map (fun k => if k = i then f k else 0)).sum = if i < n then f i else 0
  | 0 => by simp
  | n + 1 => by
    rw [List.range_succ, List.map_append, List.sum_append, range_one f i n]
    by_cases e : n = i
    · subst e; simp
    · by_cases h : i < n
      · simp [h, e, show i < n + 1 by omega]
      · simp [h, e, show ¬ i < n + 1 by omega]
theorem range_zero : ∀ n, ((List.range n).map (fun _ => (0 : Int))).sum = 0
  | 0 => rfl
  | n + 1 => by rw [List.range_succ, List.map_append, List.sum_append, range_zero n]; rfl
theorem mul_sum {n : Nat} (P : List Int) : ∀ rs : List Res, (∀ r ∈ rs, resOk n r = true) → ((List.range n).map (fun k => P.getD k 0 * gam k rs)).sum = sumAt (fun r => P.getD r.h.toNat 0 + P.getD r.a.toNat 0) rs
  | [], _ => by
    have : (fun k => P.getD k 0 * gam k []) = fun _ => (0 : Int) := funext fun k => by rw [gam, sumAt, Int.mul_zero]
    rw [this, range_zero]; rfl
  | r :: t, h => by
    have R := resOk_of (h r (by simp))
    have h0 := R.h0; have hn := R.hn; have a0 := R.a0; have an := R.an; have hne := R.ne
    have e : (fun k => P.getD k 0 * gam k (r :: t)) = fun k => ((if k = r.h.toNat then P.getD k 0 else 0) + (if k = r.a.toNat then P.getD k 0 else 0)) + P.getD k 0 * gam k t := funext fun k => by
      have : gam k (r :: t) = at2 r k 1 1 + gam k t := rfl
      rw [this, Int.mul_add]
      congr 1
      unfold at2
      by_cases e1 : (k : Int) = r.h
      · rw [if_pos e1, if_pos (show k = r.h.toNat by omega), if_neg (show ¬ k = r.a.toNat by omega)]; omega
      · by_cases e2 : (k : Int) = r.a
        · rw [if_neg e1, if_pos e2, if_neg (show ¬ k = r.h.toNat by omega), if_pos (show k = r.a.toNat by omega)]; omega
        · rw [if_neg e1, if_neg e2, if_neg (show ¬ k = r.h.toNat by omega), if_neg (show ¬ k = r.a.toNat by omega)]; omega
    rw [e, range_add, range_add, range_one, range_one, mul_sum P t (fun r hr => h r (by simp [hr])), if_pos (show r.h.toNat < n by omega), if_pos (show r.a.toNat < n by omega), sumAt]
theorem total_tie {n : Nat} {rs : List Res} (hok : leagueOk n rs = true) : ((fairF n rs).map (fun k => (pointsF n rs).getD k 0 * gam k rs)).sum = (sumsF fOpp n rs).sum := by
  rw [perm_sum _ (fair_perm hok), mul_sum _ rs (league_of hok).ok, sumsF, if_pos hok, Int.toNat_natCast, opp_sum (n := (n : Int)) _ rs _ (by rw [List.length_replicate]) (league_of hok).ok, zeros_sum]
  omega
end Go.Proofs.Ytehlijpjcjegcaa
