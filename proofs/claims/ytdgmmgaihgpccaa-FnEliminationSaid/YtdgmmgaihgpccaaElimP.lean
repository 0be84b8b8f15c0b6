/- What the law on elimination rests on, in plain Lean: no program in sight. -/
import Derived.Test.YtdgmmgaihgpccaaChanceI
import Derived.Test.YtdgmmgaihgpccaaMagic
namespace Go.Proofs.Ytdgmmgaihgpccaa
set_option linter.unusedVariables false

abbrev GamesP (n : Nat) (L : List (List Int)) : Prop := ∀ g ∈ L, ∃ x y z : Nat, g = [(x : Int), (y : Int), (z : Int)] ∧ x < y ∧ y < n ∧ 1 ≤ z ∧ z ≤ 20
theorem addAt_get (l : List Int) (i j : Nat) (v : Int) (hi : i < l.length) : (addAt l i v).getD j 0 = l.getD j 0 + (if i = j then v else 0) := by
  rw [addAt, List.getD_eq_getElem?_getD, List.getElem?_set]
  by_cases h : i = j
  · subst h; rw [if_pos rfl, if_pos hi, if_pos rfl]; rfl
  · rw [if_neg h, if_neg h, List.getD_eq_getElem?_getD]; omega
theorem leftOf_shift (c : Int) : ∀ (l : List (List Int)) (s : Int), leftOf c s l = s + leftOf c 0 l
  | [], s => by simp [leftOf]
  | g :: l, s => by
    have h1 := leftOf_shift c l (if g.getD 0 0 = c ∨ g.getD 1 0 = c then s + g.getD 2 0 else s)
    have h2 := leftOf_shift c l (if g.getD 0 0 = c ∨ g.getD 1 0 = c then 0 + g.getD 2 0 else 0)
    show leftOf c (if _ then _ else _) l = s + leftOf c (if _ then _ else _) l
    rw [h1, h2]
    split <;> omega
theorem leftOf_cons (c a b z : Nat) (l : List (List Int)) : leftOf (c : Int) 0 ([(a : Int), (b : Int), (z : Int)] :: l) = (if a = c ∨ b = c then (z : Int) else 0) + leftOf (c : Int) 0 l := by
  have e0 : ([(a : Int), (b : Int), (z : Int)] : List Int).getD 0 0 = a := rfl
  have e1 : ([(a : Int), (b : Int), (z : Int)] : List Int).getD 1 0 = b := rfl
  have e2 : ([(a : Int), (b : Int), (z : Int)] : List Int).getD 2 0 = z := rfl
  rw [leftOf, leftOf_shift, e0, e1, e2]
  by_cases h : a = c ∨ b = c
  · rw [if_pos h, if_pos (by omega)]; omega
  · rw [if_neg h, if_neg (by omega)]

/-! ### A chance played to its end -/
theorem chance_end {n club : Nat} {best : Int} : ∀ (L : List (List Int)) (now : List Int), GamesP n L → now.length = n → club < n → proofAt now L club best = 0 →
    (afterFrom now L (chanceFrom club best now L)).length = n ∧ proofAt (afterFrom now L (chanceFrom club best now L)) [] club best = 0 ∧
      (afterFrom now L (chanceFrom club best now L)).getD club 0 = now.getD club 0 + leftOf (club : Int) 0 L
  | [], now, _, hl, hc, hp => by
    have e : afterFrom now [] (chanceFrom club best now []) = now := rfl
    rw [e]
    exact ⟨hl, hp, by simp [leftOf]⟩
  | g :: L, now, hg, hl, hc, hp => by
    obtain ⟨a, b, z, rfl, hab, hbn, hz1, hz2⟩ := hg g (by simp)
    have hgL : GamesP n L := fun g hm => hg g (by simp [hm])
    obtain ⟨F, pk, hcf⟩ := chance_step hgL (by omega) (by omega) hab hp
    have hFz := pk.le
    rw [hcf]
    have hres : resOk [(F : Int), (z : Int) - (F : Int)] (([(a : Int), (b : Int), (z : Int)] : List Int).getD 2 0) = true := by
      show resOk [(F : Int), (z : Int) - (F : Int)] (z : Int) = true
      have e1 : inR (F : Int) 0 (z : Int) = true := by simp only [inR, Bool.and_eq_true, decide_eq_true_eq]; omega
      have e2 : inR ((z : Int) - (F : Int)) 0 (z : Int) = true := by simp only [inR, Bool.and_eq_true, decide_eq_true_eq]; omega
      have f0 : ([(F : Int), (z : Int) - (F : Int)] : List Int).getD 0 0 = F := rfl
      have f1 : ([(F : Int), (z : Int) - (F : Int)] : List Int).getD 1 0 = (z : Int) - F := rfl
      rw [resOk, f0, f1, e1, e2]
      simp
      omega
    have hstep : afterFrom now ([(a : Int), (b : Int), (z : Int)] :: L) ([(F : Int), (z : Int) - (F : Int)] :: chanceFrom club best (nextOf now a b z F) L) = afterFrom (nextOf now a b z F) L (chanceFrom club best (nextOf now a b z F) L) := by
      rw [afterFrom, if_pos hres]; rfl
    rw [hstep]
    obtain ⟨h1, h2, h3⟩ := chance_end L (nextOf now a b z F) hgL (by rw [nextOf_len]; exact hl) hc pk.fits
    refine ⟨h1, h2, ?_⟩
    rw [h3, leftOf_cons, nextOf, addAt_get _ _ _ _ (by rw [addAt_len]; omega), addAt_get _ _ _ _ (by omega)]
    have hok := pk.ok
    simp only [allowed, Bool.not_eq_true', Bool.or_eq_false_iff, Bool.and_eq_false_iff, decide_eq_false_iff_not] at hok
    by_cases ha : a = club
    · rw [if_pos ha, if_neg (by omega), if_pos (.inl ha)]
      rcases hok.1 with h | h
      · exact absurd ha h
      · omega
    · by_cases hb : b = club
      · rw [if_neg ha, if_pos hb, if_pos (.inr hb)]
        rcases hok.2 with h | h
        · exact absurd hb h
        · omega
      · rw [if_neg ha, if_neg hb, if_neg (by omega)]; omega

/-! ### All that clubs can win -/
theorem best_list {n : Nat} (wins : List Int) (hn : wins.length = n) : ∀ (L : List (List Int)), GamesP n L →
    ∃ bl : List Int, bl.length = n ∧ (∀ k : Nat, k < n → bl.getD k 0 = wins.getD k 0 + leftOf (k : Int) 0 L) ∧ ∀ x, winsIn 0 x wins + gamesIn x 0 L ≤ winsIn 0 x bl
  | [], _ => ⟨wins, hn, fun k _ => by simp [leftOf], fun x => by simp [gamesIn]⟩
  | g :: L, hg => by
    obtain ⟨a, b, z, rfl, hab, hbn, hz1, hz2⟩ := hg g (by simp)
    obtain ⟨bl, h1, h2, h3⟩ := best_list wins hn L (fun g hm => hg g (by simp [hm]))
    refine ⟨addAt (addAt bl a z) b z, by rw [addAt_len, addAt_len]; exact h1, fun k hk => ?_, fun x => ?_⟩
    · rw [addAt_get _ _ _ _ (by rw [addAt_len]; omega), addAt_get _ _ _ _ (by omega), h2 k hk, leftOf_cons]
      by_cases ha : a = k
      · rw [if_pos ha, if_neg (by omega), if_pos (.inl ha)]; omega
      · by_cases hb : b = k
        · rw [if_neg ha, if_pos hb, if_pos (.inr hb)]; omega
        · rw [if_neg ha, if_neg hb, if_neg (by omega)]; omega
    · have h4 := h3 x
      rw [winsIn_addAt _ _ _ _ (by rw [addAt_len]; omega), winsIn_addAt _ _ _ _ (by omega), gamesIn_cons]
      cases x.testBit a <;> cases x.testBit b <;> simp <;> omega
theorem winsIn_le (M : Int) : ∀ (l : List Int) (x : Nat), (∀ k, k < l.length → x.testBit k = true → l.getD k 0 ≤ M) → winsIn 0 x l ≤ winsIn 0 x (List.replicate l.length 1) * M
  | [], x, _ => by simp [winsIn]
  | v :: l, x, h => by
    have ih := winsIn_le M l (x / 2) (fun k hk hb => by
      have := h (k + 1) (by simpa using hk) (by rw [Nat.testBit_succ]; exact hb)
      simpa using this)
    rw [List.length_cons, List.replicate_succ, winsIn_cons, winsIn_cons]
    cases hb : x.testBit 0
    · simp; exact ih
    · have h0 := h 0 (by simp) hb
      simp at h0
      simp only [if_true, Int.add_mul, Int.one_mul]
      omega
/-- Who can win as much as all others is not out. -/
theorem fits_max {n : Nat} {wins : List Int} {left : List (List Int)} (hn : wins.length = n) (hg : GamesP n left) {club : Nat} {B : Int} (h : ∀ k : Nat, k < n → k ≠ club → wins.getD k 0 + leftOf (k : Int) 0 left ≤ B) : Fits wins left club B := by
  obtain ⟨bl, h1, h2, h3⟩ := best_list wins hn left hg
  intro x _ _ hx
  have h4 := h3 x
  have h5 := winsIn_le B bl x (fun k hk hb => by
    rw [h2 k (by omega)]
    exact h k (by omega) (fun e => by rw [e, hx] at hb; cases hb))
  rw [h1] at h5
  rw [over, hn]
  omega
theorem max_of (f : Nat → Int) : ∀ n, 0 < n → ∃ k, k < n ∧ ∀ j, j < n → f j ≤ f k
  | 0, h => by omega
  | n + 1, _ => by
    rcases Nat.eq_zero_or_pos n with rfl | h
    · exact ⟨0, by omega, fun j hj => by have : j = 0 := by omega
                                         rw [this]; exact Int.le_refl _⟩
    · obtain ⟨k, hk, hm⟩ := max_of f n h
      by_cases hc : f k ≤ f n
      · refine ⟨n, by omega, fun j hj => ?_⟩
        rcases Nat.eq_or_lt_of_le (Nat.le_of_lt_succ hj) with rfl | h2
        · exact Int.le_refl _
        · have := hm j h2; omega
      · refine ⟨k, by omega, fun j hj => ?_⟩
        rcases Nat.eq_or_lt_of_le (Nat.le_of_lt_succ hj) with rfl | h2
        · omega
        · exact hm j h2

/-! ### The set of clubs still in -/
theorem still_bits (P : Nat → Bool) : ∀ (f k s : Nat), s < 2 ^ k → stillFrom P f k s < 2 ^ (k + f) ∧ ∀ i, i < k + f → (stillFrom P f k s).testBit i = if i < k then s.testBit i else P i
  | 0, k, s, hs => ⟨hs, fun i hi => by rw [if_pos (by omega)]; rfl⟩
  | f + 1, k, s, hs => by
    have hp : 2 ^ (k + 1) = 2 ^ k + 2 ^ k := by rw [Nat.pow_succ]; omega
    have hs' : (if P k = true then s + 2 ^ k else s) < 2 ^ (k + 1) := by split <;> omega
    obtain ⟨h1, h2⟩ := still_bits P f (k + 1) _ hs'
    rw [stillFrom]
    refine ⟨by rw [show k + (f + 1) = k + 1 + f from by omega]; exact h1, fun i hi => ?_⟩
    rw [h2 i (by omega)]
    rcases Nat.lt_trichotomy i k with h | h | h
    · rw [if_pos (by omega), if_pos h]
      split
      · rw [Nat.add_comm, Nat.testBit_two_pow_add_gt h]
      · rfl
    · subst h
      rw [if_pos (by omega), show (if i < i then s.testBit i else P i) = P i from if_neg (by omega)]
      have h3 : s.testBit i = false := Nat.testBit_lt_two_pow hs
      cases hP : P i
      · simp [h3]
      · rw [if_pos rfl]
        rw [Nat.add_comm, Nat.testBit_two_pow_add_eq, h3]; rfl
    · rw [if_neg (by omega), if_neg (by omega)]

/-! ### The facts -/
section
variable {wins : List Int} {left : List (List Int)}
theorem bestF_eq (h : raceOk wins left = true) {k : Nat} (hk : k < wins.length) : bestF wins left k = wins.getD k 0 + leftOf (k : Int) 0 left := by
  rw [bestF, if_pos (race_of_racer h hk), Int.toNat_natCast]
theorem proofF_eq (h : raceOk wins left = true) {k : Nat} (hk : k < wins.length) : proofF wins left k = proofAt wins left k (wins.getD k 0 + leftOf (k : Int) 0 left) := by
  rw [proofF, if_pos (race_of_racer h hk), Int.toNat_natCast]
theorem canF_eq (h : raceOk wins left = true) {k : Nat} (hk : k < wins.length) : canF wins left k = !outB wins left k := by
  rw [canF, race_of_racer h hk, Bool.true_and]
theorem out_fits (h : raceOk wins left = true) {k : Nat} (hk : k < wins.length) : outB wins left k = false ↔ Fits wins left k (wins.getD k 0 + leftOf (k : Int) 0 left) := by
  rw [outB, proofF_eq h hk, ← fits_iff, decide_eq_false_iff_not]; omega
theorem el_after (h : raceOk wins left = true) {k : Nat} (hk : k < wins.length) (ho : outB wins left k = false) :
    (afterF wins left (chanceF wins left k)).length = wins.length ∧ (afterF wins left (chanceF wins left k)).getD k 0 = bestF wins left k ∧ ∀ x ∈ afterF wins left (chanceF wins left k), x ≤ bestF wins left k := by
  have hr := race_of h
  have hc : canF wins left k = true := by rw [canF_eq h hk, ho]; rfl
  have e : chanceF wins left k = chanceFrom k (bestF wins left k) wins left := by rw [chanceF, if_pos hc, Int.toNat_natCast, bestF_eq h hk]
  have hp := (fits_iff _ _ _ _).2 ((out_fits h hk).1 ho)
  rw [← bestF_eq h hk] at hp
  obtain ⟨h1, h2, h3⟩ := chance_end left wins hr.games.game rfl hk hp
  rw [afterF, if_pos ⟨h, by rw [e, chanceFrom_len]⟩, e]
  generalize afterFrom wins left (chanceFrom k (bestF wins left k) wins left) = E at h1 h2 h3
  refine ⟨h1, by rw [h3, bestF_eq h hk], fun x hx => ?_⟩
  obtain ⟨i, hi⟩ := List.getElem?_of_mem hx
  have hil := lt_of hi
  have ex : E.getD i 0 = x := by rw [List.getD_eq_getElem?_getD, hi]; rfl
  by_cases hik : i = k
  · rw [hik, h3, ← bestF_eq h hk] at ex; omega
  · have := fits_one (n := wins.length) (L := []) (fun g hg => by simp at hg) ((fits_iff _ _ _ _).1 h2) hil hik
    omega
theorem el_proof (h : raceOk wins left = true) {k : Nat} (hk : k < wins.length) (ho : outB wins left k = true) :
    1 ≤ proofF wins left k ∧ proofF wins left k < 2 ^ wins.length ∧ (proofF wins left k).testBit k = false ∧
      ((bitsF wins.length 0 (proofF wins left k)).length : Int) * bestF wins left k < gamesIn (proofF wins left k) (winsIn 0 (proofF wins left k) wins) left := by
  have h0 : proofF wins left k ≠ 0 := by simp only [outB, decide_eq_true_eq] at ho; omega
  rw [proofF_eq h hk] at h0 ⊢
  have h1 : 1 ≤ 2 ^ wins.length := Nat.one_le_two_pow
  obtain ⟨h2, h3, h4⟩ := firstIn_true (isProof wins left k (wins.getD k 0 + leftOf (k : Int) 0 left)) (2 ^ wins.length - 1) 1 h0
  rw [bestF_eq h hk]
  refine ⟨h3, by rw [proofAt]; omega, ((isProof_iff _ _ _ _ _).1 h2).1, ?_⟩
  rw [isProof, Bool.and_eq_true, decide_eq_true_eq] at h2
  exact h2.2
theorem el_still (h : raceOk wins left = true) : 1 ≤ stillF wins left ∧ stillF wins left < 2 ^ wins.length ∧ ∀ k, k < wins.length → (stillF wins left).testBit k = !outB wins left k := by
  have hr := race_of h
  have e : stillF wins left = stillFrom (isIn wins left) wins.length 0 0 := by rw [stillF, if_pos h]
  obtain ⟨h1, h2⟩ := still_bits (isIn wins left) wins.length 0 0 (by simp)
  rw [Nat.zero_add] at h1 h2
  have h3 : ∀ k, k < wins.length → (stillF wins left).testBit k = !outB wins left k := fun k hk => by
    rw [e, h2 k hk, if_neg (by omega), outB_isIn h hk]; simp
  refine ⟨?_, by rw [e]; exact h1, h3⟩
  obtain ⟨k, hk, hm⟩ := max_of (fun k => wins.getD k 0 + leftOf (k : Int) 0 left) wins.length (by have := hr.two; omega)
  have h4 := (out_fits h hk).2 (fits_max rfl hr.games.game (fun j hj _ => hm j hj))
  have h5 := h3 k hk
  rw [h4] at h5
  rcases Nat.eq_zero_or_pos (stillF wins left) with h6 | h6
  · rw [h6] at h5; simp at h5
  · exact h6
theorem magic_ge (left : List (List Int)) (k : Nat) (b : Int) : ∀ (l : List Int) (n : Int) (j : Nat), n ≤ magicFrom left k b n j l ∧ ∀ i v, l[i]? = some v → j + i ≠ k → v + leftOf ((j + i : Nat) : Int) 0 left - b ≤ magicFrom left k b n j l
  | [], n, j => ⟨Int.le_refl _, fun i v h => by simp at h⟩
  | u :: l, n, j => by
    obtain ⟨h1, h2⟩ := magic_ge left k b l (if j = k then n else max n (u + leftOf (j : Int) 0 left - b)) (j + 1)
    rw [magicFrom]
    refine ⟨?_, fun i v h hne => ?_⟩
    · refine Int.le_trans ?_ h1
      split
      · exact Int.le_refl _
      · exact Int.le_max_left _ _
    · cases i with
      | zero =>
        simp at h
        subst h
        rw [Nat.add_zero] at hne ⊢
        refine Int.le_trans ?_ h1
        rw [if_neg hne]; exact Int.le_max_right _ _
      | succ i =>
        have h3 := h2 i v (by simpa using h) (by omega)
        rw [show j + 1 + i = j + (i + 1) from by omega] at h3
        exact h3
theorem magic_le (left : List (List Int)) (k : Nat) (b B : Int) (hb : 0 ≤ b) (hL : ∀ j : Nat, leftOf (j : Int) 0 left ≤ 300) : ∀ (l : List Int) (n : Int) (j : Nat), n ≤ B → 500 ≤ B → (∀ v ∈ l, v ≤ 200) → magicFrom left k b n j l ≤ B
  | [], n, j, h, _, _ => h
  | u :: l, n, j, h, hB, hv => by
    rw [magicFrom]
    refine magic_le left k b B hb hL l _ (j + 1) ?_ hB (fun v hm => hv v (by simp [hm]))
    split
    · exact h
    · have h1 := hL j
      have h2 := hv u (by simp)
      rw [Int.max_def]
      split <;> omega
theorem el_magic_le (h : raceOk wins left = true) {a : Nat} (ha : a < wins.length) : magicF wins left a ≤ 500 := by
  have hr := race_of h
  rw [magicF, if_pos (race_of_racer h ha)]
  refine magic_le left _ _ 500 ?_ (fun j => ?_) wins 0 0 (by decide) (Int.le_refl _) (fun v hv => (hr.win v hv).2)
  · obtain ⟨v, hv⟩ := some_of ha
    have := hr.win v (List.mem_of_getElem? hv)
    rw [Int.toNat_natCast, List.getD_eq_getElem?_getD, hv]; exact this.1
  · have h1 := (leftOf_bound (n := wins.length) (j : Int) left 0 hr.games.game).2
    have h2 := hr.games.few
    omega
theorem el_best (h : raceOk wins left = true) {a : Nat} (ha : a < wins.length) : 0 ≤ bestF wins left a ∧ bestF wins left a ≤ 500 ∧ gamesLeftF wins left a = leftOf (a : Int) 0 left ∧ 0 ≤ leftOf (a : Int) 0 left ∧ leftOf (a : Int) 0 left ≤ 300 := by
  have hr := race_of h
  have h1 := leftOf_bound (n := wins.length) (a : Int) left 0 hr.games.game
  have h2 := hr.games.few
  obtain ⟨v, hv⟩ := some_of ha
  have h3 := hr.win v (List.mem_of_getElem? hv)
  rw [bestF_eq h ha, List.getD_eq_getElem?_getD, hv, gamesLeftF, if_pos (race_of_racer h ha)]
  simp only [Option.getD_some]
  exact ⟨by omega, by omega, trivial, by omega, by omega⟩
theorem el_magic (h : raceOk wins left = true) {a : Nat} (ha : a < wins.length) : 0 ≤ magicF wins left a ∧ (∀ k : Nat, k < wins.length → k ≠ a → bestF wins left k ≤ wins.getD a 0 + magicF wins left a) ∧ (magicF wins left a = 0 → outB wins left a = false) := by
  have hr := race_of h
  have e : magicF wins left a = magicFrom left a (wins.getD a 0) 0 0 wins := by rw [magicF, if_pos (race_of_racer h ha), Int.toNat_natCast]
  obtain ⟨h1, h2⟩ := magic_ge left a (wins.getD a 0) wins 0 0
  rw [← e] at h1 h2
  have h3 : ∀ k : Nat, k < wins.length → k ≠ a → bestF wins left k ≤ wins.getD a 0 + magicF wins left a := fun k hk hne => by
    obtain ⟨v, hv⟩ := some_of hk
    have h4 := h2 k v hv (by omega)
    rw [Nat.zero_add] at h4
    rw [bestF_eq h hk, List.getD_eq_getElem?_getD, hv]
    simp only [Option.getD_some]
    omega
  refine ⟨h1, h3, fun h0 => (out_fits h ha).2 (fits_max rfl hr.games.game (fun k hk hne => ?_))⟩
  have h5 := h3 k hk hne
  rw [bestF_eq h hk, h0] at h5
  have h6 := (leftOf_bound (n := wins.length) (a : Int) left 0 hr.games.game).1
  omega
end
end Go.Proofs.Ytdgmmgaihgpccaa
