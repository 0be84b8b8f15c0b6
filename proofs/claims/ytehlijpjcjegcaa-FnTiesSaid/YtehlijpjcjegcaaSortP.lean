/- Insertion from the right, the order that it makes, and its levels of equal keys: plain Lean, no program in sight. -/
import Derived.Test.YtehlijpjcjegcaaBit0
namespace Go.Proofs.Ytehlijpjcjegcaa
set_option linter.unusedVariables false

/-- How many of the first k stay ahead of the new one. -/
def stay (f : Nat → Bool) (out : List Nat) : Nat → Nat
  | 0 => 0
  | k + 1 => if f (out.getD k 0) = true then stay f out k else k + 1
theorem stay_le (f : Nat → Bool) (out : List Nat) : ∀ k, stay f out k ≤ k
  | 0 => Nat.le_refl _
  | k + 1 => by
    rw [stay]
    split
    · have := stay_le f out k; omega
    · exact Nat.le_refl _
theorem stay_hit {f : Nat → Bool} {out : List Nat} {k : Nat} (h : f (out.getD k 0) = true) : stay f out (k + 1) = stay f out k := by rw [stay, if_pos h]
theorem stay_stop {f : Nat → Bool} {out : List Nat} {k : Nat} (h : f (out.getD k 0) = false) : stay f out (k + 1) = k + 1 := by rw [stay, if_neg (by rw [h]; decide)]
theorem stay_behind (f : Nat → Bool) (out : List Nat) : ∀ k j, stay f out k ≤ j → j < k → f (out.getD j 0) = true
  | 0, _, _, h => by omega
  | k + 1, j, h1, h2 => by
    by_cases hf : f (out.getD k 0) = true
    · rw [stay_hit hf] at h1
      rcases Nat.lt_or_ge j k with h3 | h3
      · exact stay_behind f out k j h1 h3
      · obtain rfl : j = k := by omega
        exact hf
    · rw [stay_stop (by simpa using hf)] at h1; omega
theorem stay_ahead (f : Nat → Bool) (out : List Nat) : ∀ k j, stay f out k = j + 1 → f (out.getD j 0) = false
  | 0, j, h => by rw [stay] at h; omega
  | k + 1, j, h => by
    by_cases hf : f (out.getD k 0) = true
    · rw [stay_hit hf] at h
      exact stay_ahead f out k j h
    · have hf' : f (out.getD k 0) = false := by simpa using hf
      rw [stay_stop hf'] at h
      obtain rfl : k = j := by omega
      exact hf'
def insK (out : List Nat) (k i : Nat) : List Nat := out.take k ++ i :: out.drop k
theorem insK_len (out : List Nat) (k i : Nat) (hk : k ≤ out.length) : (insK out k i).length = out.length + 1 := by simp [insK]; omega
theorem insK_perm (out : List Nat) (k i : Nat) : (insK out k i).Perm (i :: out) := by
  have h := List.take_append_drop k out
  unfold insK
  refine List.perm_middle.trans ?_
  rw [h]
def ins (f : Nat → Bool) (out : List Nat) (i : Nat) : List Nat := insK out (stay f out out.length) i
/-- The numbers below n, each set in from the right, past all that are less. -/
def insAll (lt : Nat → Nat → Bool) : Nat → List Nat
  | 0 => []
  | n + 1 => ins (fun b => lt b n) (insAll lt n) n
theorem insAll_len (lt : Nat → Nat → Bool) : ∀ n, (insAll lt n).length = n
  | 0 => rfl
  | n + 1 => by rw [insAll, ins, insK_len _ _ _ (stay_le _ _ _), insAll_len lt n]
theorem insAll_perm (lt : Nat → Nat → Bool) : ∀ n, (insAll lt n).Perm (List.range n)
  | 0 => by simp [insAll]
  | n + 1 => by
    rw [insAll, ins, List.range_succ]
    refine (insK_perm _ _ _).trans ((List.Perm.cons n (insAll_perm lt n)).trans ?_)
    exact (List.perm_append_singleton n (List.range n)).symm
theorem insAll_lt {lt : Nat → Nat → Bool} {n a : Nat} (h : a ∈ insAll lt n) : a < n := by
  have := (insAll_perm lt n).mem_iff.1 h
  simpa using this
theorem insAll_mem {lt : Nat → Nat → Bool} {n a : Nat} (h : a < n) : a ∈ insAll lt n := (insAll_perm lt n).mem_iff.2 (by simpa using h)
theorem insAll_nodup (lt : Nat → Nat → Bool) (n : Nat) : (insAll lt n).Nodup := (insAll_perm lt n).nodup_iff.2 List.nodup_range
theorem ins_congr {f g : Nat → Bool} {out : List Nat} (i : Nat) (h : ∀ b ∈ out, f b = g b) : ins f out i = ins g out i := by
  have hs : ∀ k, k ≤ out.length → stay f out k = stay g out k := by
    intro k
    induction k with
    | zero => intro _; rfl
    | succ k ih =>
      intro hk
      have hm : out.getD k 0 ∈ out := by
        rw [List.getD_eq_getElem?_getD, List.getElem?_eq_getElem (by omega)]
        exact List.getElem_mem (by omega)
      rw [stay, stay, h _ hm, ih (by omega)]
  rw [ins, ins, hs _ (Nat.le_refl _)]
theorem insAll_congr {lt lt' : Nat → Nat → Bool} : ∀ n, (∀ a b, a < n → b < n → lt a b = lt' a b) → insAll lt n = insAll lt' n
  | 0, _ => rfl
  | n + 1, h => by
    rw [insAll, insAll, ← insAll_congr n (fun a b ha hb => h a b (by omega) (by omega))]
    exact ins_congr n (fun b hb => h b n (by have := insAll_lt hb; omega) (by omega))

/-! ### The order is by key, from the greatest -/
def byKey (key : Nat → Int) (a b : Nat) : Bool := decide (key a < key b)
theorem insK_sorted {key : Nat → Int} {out : List Nat} {k i : Nat} (h : out.Pairwise (fun a b => key b ≤ key a))
    (h1 : ∀ a ∈ out.take k, key i ≤ key a) (h2 : ∀ a ∈ out.drop k, key a ≤ key i) : (insK out k i).Pairwise (fun a b => key b ≤ key a) := by
  unfold insK
  rw [List.pairwise_append]
  refine ⟨h.sublist (List.take_sublist _ _), ?_, ?_⟩
  · rw [List.pairwise_cons]
    exact ⟨h2, h.sublist (List.drop_sublist _ _)⟩
  · intro a ha b hb
    rcases List.mem_cons.1 hb with rfl | hb
    · exact h1 a ha
    · have h3 := h1 a ha
      have h4 := h2 b hb
      omega
theorem insAll_sorted (key : Nat → Int) : ∀ n, (insAll (byKey key) n).Pairwise (fun a b => key b ≤ key a)
  | 0 => by simp [insAll]
  | n + 1 => by
    rw [insAll, ins]
    have ih := insAll_sorted key n
    have hl := stay_le (fun b => byKey key b n) (insAll (byKey key) n) (insAll (byKey key) n).length
    generalize hk : stay (fun b => byKey key b n) (insAll (byKey key) n) (insAll (byKey key) n).length = k at hl
    refine insK_sorted ih (fun a ha => ?_) (fun a ha => ?_)
    · obtain ⟨j, hj⟩ := List.getElem?_of_mem ha
      rw [List.getElem?_take] at hj
      split at hj
      · rename_i hjk
        obtain ⟨m, rfl⟩ : ∃ m, k = m + 1 := ⟨k - 1, by omega⟩
        have h1 := stay_ahead _ _ _ _ hk
        obtain ⟨x, hx⟩ := some_of (l := insAll (byKey key) n) (k := m) (by omega)
        have hxd : (insAll (byKey key) n).getD m 0 = x := by rw [List.getD_eq_getElem?_getD, hx]; rfl
        rw [hxd] at h1
        have h2 : ¬ key x < key n := by simpa [byKey] using h1
        rcases Nat.eq_or_lt_of_le (show j ≤ m by omega) with rfl | h3
        · rw [hj] at hx; injection hx with hx; subst hx; omega
        · have h4 := List.pairwise_iff_getElem.1 ih j m (lt_of hj) (lt_of hx) h3
          rw [(List.getElem?_eq_some_iff.1 hj).2, (List.getElem?_eq_some_iff.1 hx).2] at h4
          omega
      · cases hj
    · obtain ⟨j, hj⟩ := List.getElem?_of_mem ha
      rw [List.getElem?_drop] at hj
      have h1 := stay_behind (fun b => byKey key b n) (insAll (byKey key) n) _ (k + j) (by omega) (lt_of hj)
      rw [List.getD_eq_getElem?_getD, hj] at h1
      have : key a < key n := by simpa [byKey] using h1
      omega

/-! ### Levels of equal keys -/
def levStep (key : Nat → Int) (out : List (List Int)) (i : Nat) : List (List Int) :=
  if out.length ≠ 0 ∧ key ((out.getD (out.length - 1) []).getD 0 0).toNat = key i then out.set (out.length - 1) (out.getD (out.length - 1) [] ++ [(i : Int)]) else out ++ [[(i : Int)]]
def levFold (key : Nat → Int) : List (List Int) → List Nat → List (List Int)
  | out, [] => out
  | out, i :: r => levFold key (levStep key out i) r
def levelsOf (key : Nat → Int) (n : Nat) : List (List Int) := levFold key [] (insAll (byKey key) n)
/-- What levels are, once a row has been taken in. -/
structure Levs (key : Nat → Int) (done : List Nat) (out : List (List Int)) : Prop where
  join : out.flatten = done.map fun a : Nat => (a : Int)
  same : ∀ lv ∈ out, ∃ (a : Nat) (r : List Nat), lv = (a :: r).map (fun a : Nat => (a : Int)) ∧ ∀ b ∈ r, key b = key a
  fall : ∀ (i j : Nat) (lv lv' : List Int), i < j → out[i]? = some lv → out[j]? = some lv' → key (lv'.getD 0 0).toNat < key (lv.getD 0 0).toNat
theorem Levs.nil (key : Nat → Int) : Levs key [] [] := ⟨rfl, fun _ h => by simp at h, fun i j lv lv' _ h => by simp at h⟩
theorem head_toNat (a : Nat) (r : List Nat) : (((a :: r).map fun a : Nat => (a : Int)).getD 0 0).toNat = a := by simp
theorem flatten_set_last {out : List (List Int)} (x : Int) (h : out.length ≠ 0) : (out.set (out.length - 1) (out.getD (out.length - 1) [] ++ [x])).flatten = out.flatten ++ [x] := by
  obtain ⟨l, a, rfl⟩ : ∃ l a, out = l ++ [a] := by
    rcases List.eq_nil_or_concat out with rfl | ⟨l, a, rfl⟩
    · exact absurd rfl h
    · exact ⟨l, a, by simp⟩
  simp
theorem Levs.step {key : Nat → Int} {done : List Nat} {out : List (List Int)} {i : Nat} (h : Levs key done out) (hs : ∀ a ∈ done, key i ≤ key a) : Levs key (done ++ [i]) (levStep key out i) := by
  unfold levStep
  split
  · rename_i hc
    obtain ⟨h0, hk⟩ := hc
    obtain ⟨lv, hlv⟩ := some_of (l := out) (k := out.length - 1) (by omega)
    have hd : out.getD (out.length - 1) [] = lv := by rw [List.getD_eq_getElem?_getD, hlv]; rfl
    obtain ⟨a, r, rfl, har⟩ := h.same lv (List.mem_of_getElem? hlv)
    rw [hd, head_toNat] at hk
    have hnew : (a :: r).map (fun a : Nat => (a : Int)) ++ [(i : Int)] = (a :: (r ++ [i])).map (fun a : Nat => (a : Int)) := by simp
    refine ⟨by rw [flatten_set_last _ h0, h.join]; simp, fun lv' hm => ?_, fun p q u v hpq hu hv => ?_⟩
    · rw [hd] at hm
      obtain ⟨j, hj⟩ := List.getElem?_of_mem hm
      rw [List.getElem?_set] at hj
      split at hj
      · rename_i hjj
        split at hj
        · injection hj with hj
          refine ⟨a, r ++ [i], by rw [← hj, hnew], fun b hb => ?_⟩
          rcases List.mem_append.1 hb with hb | hb
          · exact har b hb
          · simp at hb; subst hb; exact hk.symm
        · cases hj
      · exact h.same lv' (List.mem_of_getElem? hj)
    · rw [hd] at hu hv
      have hu' : ∃ u', out[p]? = some u' ∧ (u'.getD 0 0) = (u.getD 0 0) := by
        rw [List.getElem?_set] at hu
        split at hu
        · rename_i e
          split at hu
          · injection hu with hu
            refine ⟨_, by rw [← e]; exact hlv, by rw [← hu, hnew]; simp⟩
          · cases hu
        · exact ⟨u, hu, rfl⟩
      have hv' : ∃ v', out[q]? = some v' ∧ (v'.getD 0 0) = (v.getD 0 0) := by
        rw [List.getElem?_set] at hv
        split at hv
        · rename_i e
          split at hv
          · injection hv with hv
            refine ⟨_, by rw [← e]; exact hlv, by rw [← hv, hnew]; simp⟩
          · cases hv
        · exact ⟨v, hv, rfl⟩
      obtain ⟨u', e1, e2⟩ := hu'
      obtain ⟨v', e3, e4⟩ := hv'
      rw [← e2, ← e4]
      exact h.fall p q u' v' hpq e1 e3
  · rename_i hc
    refine ⟨by rw [List.flatten_append, h.join]; simp, fun lv hm => ?_, fun p q u v hpq hu hv => ?_⟩
    · rcases List.mem_append.1 hm with hm | hm
      · exact h.same lv hm
      · simp at hm; subst hm
        exact ⟨i, [], rfl, fun b hb => by simp at hb⟩
    · have hp : p < out.length := by have := lt_of hv; simp at this; omega
      rw [List.getElem?_append_left hp] at hu
      rcases Nat.lt_or_ge q out.length with hq | hq
      · rw [List.getElem?_append_left hq] at hv
        exact h.fall p q u v hpq hu hv
      · have hql : q = out.length := by have := lt_of hv; simp at this; omega
        subst hql
        rw [List.getElem?_append_right (Nat.le_refl _), Nat.sub_self] at hv
        simp at hv; subst hv
        obtain ⟨lv, hlv⟩ := some_of (l := out) (k := out.length - 1) (by omega)
        have hd : out.getD (out.length - 1) [] = lv := by rw [List.getD_eq_getElem?_getD, hlv]; rfl
        obtain ⟨a, r, rfl, har⟩ := h.same lv (List.mem_of_getElem? hlv)
        have hne : key a ≠ key i := fun e => hc ⟨by omega, by rw [hd, head_toNat]; exact e⟩
        have hin : a ∈ done := by
          have : (a : Int) ∈ out.flatten := List.mem_flatten.2 ⟨_, List.mem_of_getElem? hlv, by simp⟩
          rw [h.join] at this
          obtain ⟨b, hb, e⟩ := List.mem_map.1 this
          have : b = a := by omega
          subst this; exact hb
        have h1 := hs a hin
        simp only [List.getD_cons_zero, Int.toNat_natCast]
        rcases Nat.eq_or_lt_of_le (show p ≤ out.length - 1 by omega) with e | h2
        · rw [e, hlv] at hu
          injection hu with hu
          rw [← hu, head_toNat]; omega
        · have := h.fall p (out.length - 1) u _ h2 hu hlv
          rw [head_toNat] at this; omega
theorem levFold_ok {key : Nat → Int} : ∀ (r done : List Nat) (out : List (List Int)), Levs key done out → (done ++ r).Pairwise (fun a b => key b ≤ key a) → Levs key (done ++ r) (levFold key out r)
  | [], done, out, h, _ => by simpa [levFold] using h
  | i :: r, done, out, h, hp => by
    rw [levFold]
    have h1 := h.step (i := i) (fun a ha => (List.pairwise_append.1 hp).2.2 a ha i (by simp))
    have := levFold_ok r (done ++ [i]) _ h1 (by simpa using hp)
    simpa using this
theorem levelsOf_ok (key : Nat → Int) (n : Nat) : Levs key (insAll (byKey key) n) (levelsOf key n) := by
  have := levFold_ok (insAll (byKey key) n) [] [] (Levs.nil key) (by simpa using insAll_sorted key n)
  simpa [levelsOf] using this
/-- A level holds all that have the key of its first. -/
theorem levelsOf_mem {key : Nat → Int} {n : Nat} {lv : List Int} (h : lv ∈ levelsOf key n) : ∃ (a : Nat) (r : List Nat), lv = (a :: r).map (fun a : Nat => (a : Int)) ∧ a < n ∧ (a :: r).Nodup ∧ ∀ b : Nat, b ∈ a :: r ↔ b < n ∧ key b = key a := by
  have L := levelsOf_ok key n
  obtain ⟨a, r, rfl, har⟩ := L.same lv h
  have hlt : ∀ b ∈ a :: r, b < n := fun b hb => by
    have : (b : Int) ∈ (levelsOf key n).flatten := List.mem_flatten.2 ⟨_, h, List.mem_map.2 ⟨b, hb, rfl⟩⟩
    rw [L.join] at this
    obtain ⟨c, hc, e⟩ := List.mem_map.1 this
    have : c = b := by omega
    subst this
    exact insAll_lt hc
  have hnd : (levelsOf key n).flatten.Nodup := by
    rw [L.join]
    exact List.pairwise_map.2 ((insAll_nodup (byKey key) n).imp (fun hne e => hne (Int.ofNat_inj.1 e)))
  refine ⟨a, r, rfl, hlt a (by simp), ?_, fun b => ⟨fun hb => ⟨hlt b hb, ?_⟩, fun ⟨hb, hk⟩ => ?_⟩⟩
  · have h1 : ((a :: r).map (fun a : Nat => (a : Int))).Nodup := hnd.sublist (List.sublist_flatten_of_mem h)
    exact (List.pairwise_map.1 h1).imp (fun hne e => hne (by rw [e]))
  · rcases List.mem_cons.1 hb with rfl | hb
    · rfl
    · exact har b hb
  · have hin : (b : Int) ∈ (levelsOf key n).flatten := by
      rw [L.join]
      exact List.mem_map.2 ⟨b, insAll_mem hb, rfl⟩
    obtain ⟨lv', hm, hb'⟩ := List.mem_flatten.1 hin
    obtain ⟨a', r', rfl, har'⟩ := L.same lv' hm
    obtain ⟨p, hp⟩ := List.getElem?_of_mem h
    obtain ⟨q, hq⟩ := List.getElem?_of_mem hm
    obtain ⟨c, hc, e⟩ := List.mem_map.1 hb'
    have hcb : c = b := by omega
    subst hcb
    have hkc : key c = key a' := by
      rcases List.mem_cons.1 hc with rfl | hc
      · rfl
      · exact har' c hc
    have hpq : p = q := by
      rcases Nat.lt_trichotomy p q with h1 | h1 | h1
      · have := L.fall p q _ _ h1 hp hq
        rw [head_toNat, head_toNat] at this; omega
      · exact h1
      · have := L.fall q p _ _ h1 hq hp
        rw [head_toNat, head_toNat] at this; omega
    subst hpq
    rw [hp] at hq
    injection hq with hq
    rw [List.map_cons, List.map_cons, List.cons.injEq] at hq
    have e1 : a = a' := by omega
    have e2 : r = r' := (List.map_inj_right (fun x y e => Int.ofNat_inj.1 e)).1 hq.2
    rw [e1, e2]
    exact hc
end Go.Proofs.Ytehlijpjcjegcaa
