/- What the law on ties wants of the fair table: it orders the clubs, by points, and the tied stand together in the order of their own table. No program in sight. -/
import Derived.Test.YtehlijpjcjegcaaTiesP
namespace Go.Proofs.Ytehlijpjcjegcaa
set_option linter.unusedVariables false
set_option linter.unusedSimpArgs false
open Go.RowKit

theorem in_tied (l : List Int) (a k : Nat) : inSet (tiedOf l a) (k : Int) = decide (k < l.length ∧ l.getD k 0 = l.getD a 0) := by
  have h := tie_bit l (l.getD a 0) l.length 0 0 k (by simp)
  rw [inSet, Int.toNat_natCast, ← bit_of]
  show (tieFrom l (l.getD a 0) l.length 0 0).testBit k = _
  rw [h, Nat.zero_testBit, Bool.false_or]
  congr 1
  simp
theorem tied_lt (l : List Int) (a : Nat) : tiedOf l a < 2 ^ l.length := by
  refine Nat.lt_pow_two_of_testBit _ (fun i hi => ?_)
  have h := in_tied l a i
  rw [inSet, Int.toNat_natCast, ← bit_of, decide_eq_false (show ¬ (i < l.length ∧ l.getD i 0 = l.getD a 0) by omega)] at h
  exact h
theorem tied_ne (l : List Int) {a : Nat} (h : a < l.length) : tiedOf l a ≠ 0 := by
  intro e
  have h1 := in_tied l a a
  rw [e, decide_eq_true ⟨h, rfl⟩] at h1
  simp [inSet] at h1
theorem tied_same {l : List Int} {a b : Nat} (h : l.getD a 0 = l.getD b 0) : tiedOf l a = tiedOf l b := by rw [tiedOf, tiedOf, h]
section
variable {n : Nat} {rs : List Res}
theorem head_eq (hok : leagueOk n rs = true) {S : Nat} (h : S < 2 ^ n) (h0 : S ≠ 0) : headF n rs (S : Int) = (tableF n (amongF S rs)).filter (fun k : Nat => inSet S (k : Int)) := by
  have ha : amongOk n rs (S : Int) = true := by
    simp only [amongOk, hok, Bool.true_and, inR, Bool.and_eq_true, decide_eq_true_eq, Int.toNat_natCast]; omega
  rw [headF, if_pos ⟨ha, by omega⟩, Int.toNat_natCast, tabF, if_pos (among_ok S hok), Int.toNat_natCast]
theorem head_mem (hok : leagueOk n rs = true) {S : Nat} (h : S < 2 ^ n) (h0 : S ≠ 0) (b : Nat) : b ∈ headF n rs (S : Int) ↔ b < n ∧ inSet S (b : Int) = true := by
  rw [head_eq hok h h0, List.mem_filter, tableF]
  constructor
  · rintro ⟨h1, h2⟩; exact ⟨insAll_lt h1, h2⟩
  · rintro ⟨h1, h2⟩; exact ⟨insAll_mem h1, h2⟩
theorem head_nodup (hok : leagueOk n rs = true) {S : Nat} (h : S < 2 ^ n) (h0 : S ≠ 0) : (headF n rs (S : Int)).Nodup := by
  rw [head_eq hok h h0]
  exact List.Pairwise.filter _ (insAll_nodup _ _)
theorem head_tied (hok : leagueOk n rs = true) {a : Nat} (ha : a < n) :
    (headF n rs ((tiedOf (pointsF n rs) a : Nat) : Int)).Nodup ∧ ∀ b, b ∈ headF n rs ((tiedOf (pointsF n rs) a : Nat) : Int) ↔ b < n ∧ (pointsF n rs).getD b 0 = (pointsF n rs).getD a 0 := by
  have hl := pointsF_len (league_of hok)
  have h1 := tied_lt (pointsF n rs) a
  have h2 := tied_ne (pointsF n rs) (a := a) (by omega)
  rw [hl] at h1
  refine ⟨head_nodup hok h1 h2, fun b => ?_⟩
  rw [head_mem hok h1 h2, in_tied, decide_eq_true_iff, hl]
  constructor
  · rintro ⟨h, _, h3⟩; exact ⟨h, h3⟩
  · rintro ⟨h, h3⟩; exact ⟨h, h, h3⟩
/-- A level's clubs in the order of their own table: the level's clubs. -/
theorem fair_lv (hok : leagueOk n rs = true) {lv : List Int} (h : lv ∈ levF (pointsF n rs)) :
    (fairLv n rs lv).Perm (lv.map Int.toNat) ∧ (∀ b ∈ fairLv n rs lv, (pointsF n rs).getD b 0 = (pointsF n rs).getD (lv.getD 0 0).toNat 0) ∧ (lv.getD 0 0).toNat < n := by
  have hl := pointsF_len (league_of hok)
  obtain ⟨a, r, rfl, ha, hnd, hmem⟩ := levelsOf_mem h
  rw [hl] at ha
  obtain ⟨t1, t2⟩ := head_tied hok ha
  have e0 : fairLv n rs ((a :: r).map fun a : Nat => (a : Int)) = headF n rs ((tiedOf (pointsF n rs) a : Nat) : Int) := by rw [fairLv, head_toNat]
  have e1 : ((a :: r).map fun a : Nat => (a : Int)).map Int.toNat = a :: r := by
    rw [List.map_map]
    exact (List.map_congr_left (fun x _ => Int.toNat_natCast x)).trans (List.map_id _)
  rw [e0, e1, head_toNat]
  refine ⟨(List.perm_ext_iff_of_nodup t1 hnd).2 (fun b => ?_), fun b hb => ((t2 b).1 hb).2, ha⟩
  rw [t2, hmem b, hl, keyOf, keyOf]
theorem flatMap_perm {α β : Type} (f g : α → List β) : ∀ xs : List α, (∀ x ∈ xs, (f x).Perm (g x)) → (xs.flatMap f).Perm (xs.flatMap g)
  | [], _ => by simp
  | x :: r, h => by
    rw [List.flatMap_cons, List.flatMap_cons]
    exact (h x (by simp)).append (flatMap_perm f g r (fun y hy => h y (by simp [hy])))
theorem fair_eq (hok : leagueOk n rs = true) : fairF n rs = (levF (pointsF n rs)).flatMap (fairLv n rs) := by rw [fairF, if_pos hok, Int.toNat_natCast]
theorem fair_perm (hok : leagueOk n rs = true) : (fairF n rs).Perm (List.range n) := by
  have hl := pointsF_len (league_of hok)
  rw [fair_eq hok]
  refine (flatMap_perm _ (fun lv : List Int => lv.map Int.toNat) _ (fun lv h => (fair_lv hok h).1)).trans ?_
  have e : (levF (pointsF n rs)).flatMap (fun lv : List Int => lv.map Int.toNat) = ((levF (pointsF n rs)).flatten).map Int.toNat := by
    rw [List.map_flatten, List.flatMap_def]
  have L := levelsOf_ok (keyOf (pointsF n rs)) (pointsF n rs).length
  have hj : (levF (pointsF n rs)).flatten = _ := L.join
  rw [e, hj, List.map_map]
  have e2 : (insAll (byKey (keyOf (pointsF n rs))) (pointsF n rs).length).map (Int.toNat ∘ fun a : Nat => (a : Int)) = insAll (byKey (keyOf (pointsF n rs))) (pointsF n rs).length :=
    (List.map_congr_left (fun x _ => Int.toNat_natCast x)).trans (List.map_id _)
  rw [e2, hl]
  exact insAll_perm _ _
theorem fair_sorted (hok : leagueOk n rs = true) : (fairF n rs).Pairwise (fun a b => (pointsF n rs).getD b 0 ≤ (pointsF n rs).getD a 0) := by
  have L := levelsOf_ok (keyOf (pointsF n rs)) (pointsF n rs).length
  rw [fair_eq hok, List.pairwise_flatMap]
  refine ⟨fun lv h => ?_, ?_⟩
  · refine List.Pairwise.imp_of_mem (fun {a b} ha hb _ => ?_) (List.pairwise_of_forall (R := fun _ _ => True) (fun _ _ => trivial))
    have h2 := (fair_lv hok h).2.1
    rw [h2 a ha, h2 b hb]; exact Int.le_refl _
  · rw [List.pairwise_iff_getElem]
    intro i j hi hj hij x hx y hy
    have hmi := List.getElem_mem hi
    have hmj := List.getElem_mem hj
    have h1 := (fair_lv hok hmi).2.1 x hx
    have h2 := (fair_lv hok hmj).2.1 y hy
    have h3 := L.fall i j _ _ hij (List.getElem?_eq_getElem hi) (List.getElem?_eq_getElem hj)
    rw [keyOf, keyOf] at h3
    rw [h1, h2]
    exact Int.le_of_lt h3
/-- The tied stand together, in the order of their own table. -/
theorem fair_block (hok : leagueOk n rs = true) {a : Nat} (ha : a < n) : ∃ pre post, fairF n rs = pre ++ headF n rs ((tiedOf (pointsF n rs) a : Nat) : Int) ++ post := by
  have hm : a ∈ fairF n rs := (fair_perm hok).mem_iff.2 (by simpa using ha)
  rw [fair_eq hok] at hm
  obtain ⟨lv, h1, h2⟩ := List.mem_flatMap.1 hm
  obtain ⟨s, t, e⟩ := List.append_of_mem h1
  have h3 := (fair_lv hok h1).2.1 a h2
  have e2 : fairLv n rs lv = headF n rs ((tiedOf (pointsF n rs) a : Nat) : Int) := by rw [fairLv, tied_same h3.symm]
  refine ⟨s.flatMap (fairLv n rs), t.flatMap (fairLv n rs), ?_⟩
  rw [fair_eq hok, e, List.flatMap_append, List.flatMap_cons, e2, List.append_assoc]
end
end Go.Proofs.Ytehlijpjcjegcaa
