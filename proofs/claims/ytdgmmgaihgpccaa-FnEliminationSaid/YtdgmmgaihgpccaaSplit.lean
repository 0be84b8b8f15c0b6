/- Plain facts: while no set of other clubs has too many wins, each next game can be split so that none gets too many; no program in sight. -/
import Derived.Test.YtdgmmgaihgpccaaBitsP
import Derived.Test.YtdgmmgaihgpccaaAfter
namespace Go.Proofs.Ytdgmmgaihgpccaa

def has_ (x k : Nat) : Bool := x.testBit k
theorem bit_iff (x k : Nat) : x / 2 ^ k % 2 = 1 ↔ x.testBit k = true := by
  rw [Nat.testBit_eq_decide_div_mod_eq, decide_eq_true_eq]
theorem mod_iff (x : Nat) : x % 2 = 1 ↔ x.testBit 0 = true := by
  have := bit_iff x 0
  rw [Nat.pow_zero, Nat.div_one] at this
  exact this
theorem winsIn_shift : ∀ (l : List Int) (x : Nat) (s : Int), winsIn s x l = s + winsIn 0 x l
  | [], _, s => by simp [winsIn]
  | v :: l, x, s => by
    rw [winsIn, winsIn, winsIn_shift l (x / 2) (if x % 2 = 1 then s + v else s), winsIn_shift l (x / 2) (if x % 2 = 1 then 0 + v else 0)]
    split <;> omega
theorem winsIn_cons (v : Int) (l : List Int) (x : Nat) : winsIn 0 x (v :: l) = (if x.testBit 0 = true then v else 0) + winsIn 0 (x / 2) l := by
  rw [winsIn, winsIn_shift]
  by_cases h : x % 2 = 1
  · rw [if_pos h, if_pos ((mod_iff x).1 h)]; omega
  · rw [if_neg h, if_neg (fun e => h ((mod_iff x).2 e))]
theorem winsIn_mod : ∀ (l : List Int) (x y : Nat), winsIn 0 (x ||| y) l + winsIn 0 (x &&& y) l = winsIn 0 x l + winsIn 0 y l
  | [], _, _ => by simp [winsIn]
  | v :: l, x, y => by
    have ih := winsIn_mod l (x / 2) (y / 2)
    rw [winsIn_cons, winsIn_cons, winsIn_cons, winsIn_cons, Nat.or_div_two, Nat.and_div_two, Nat.testBit_or, Nat.testBit_and]
    cases x.testBit 0 <;> cases y.testBit 0 <;> simp <;> omega
theorem winsIn_zero : ∀ (l : List Int), winsIn 0 0 l = 0
  | [] => rfl
  | v :: l => by rw [winsIn_cons]; simp [winsIn_zero l]
theorem bits_ones : ∀ (f a x : Nat), ((bitsF f a x).length : Int) = winsIn 0 x (List.replicate f 1)
  | 0, _, _ => by simp [bitsF, winsIn]
  | f + 1, a, x => by
    have ih := bits_ones f (a + 1) (x / 2)
    rw [List.replicate_succ, winsIn_cons, ← ih, bitsF]
    by_cases h : x % 2 = 1
    · rw [if_pos h, if_pos ((mod_iff x).1 h)]; simp; omega
    · rw [if_neg h, if_neg (fun e => h ((mod_iff x).2 e))]; simp
theorem winsIn_addAt : ∀ (l : List Int) (x a : Nat) (v : Int), a < l.length → winsIn 0 x (addAt l a v) = winsIn 0 x l + (if x.testBit a = true then v else 0)
  | [], _, _, _, h => by simp at h
  | u :: l, x, 0, v, _ => by
    have e : addAt (u :: l) 0 v = (u + v) :: l := rfl
    rw [e, winsIn_cons, winsIn_cons]
    split <;> omega
  | u :: l, x, a + 1, v, h => by
    have e : addAt (u :: l) (a + 1) v = u :: addAt l a v := by simp [addAt]
    have ih := winsIn_addAt l (x / 2) a v (by simpa using h)
    rw [e, winsIn_cons, winsIn_cons, ih, Nat.testBit_succ]
    split <;> split <;> omega
theorem gamesIn_shift (x : Nat) : ∀ (l : List (List Int)) (s : Int), gamesIn x s l = s + gamesIn x 0 l
  | [], s => by simp [gamesIn]
  | g :: l, s => by
    have h1 := gamesIn_shift x l (if x / 2 ^ (g.getD 0 0).toNat % 2 = 1 ∧ x / 2 ^ (g.getD 1 0).toNat % 2 = 1 then s + g.getD 2 0 else s)
    have h2 := gamesIn_shift x l (if x / 2 ^ (g.getD 0 0).toNat % 2 = 1 ∧ x / 2 ^ (g.getD 1 0).toNat % 2 = 1 then 0 + g.getD 2 0 else 0)
    show gamesIn x (if _ then _ else _) l = s + gamesIn x (if _ then _ else _) l
    rw [h1, h2]
    split <;> omega
theorem gamesIn_cons (x a b z : Nat) (l : List (List Int)) : gamesIn x 0 ([(a : Int), (b : Int), (z : Int)] :: l) = (if x.testBit a = true ∧ x.testBit b = true then (z : Int) else 0) + gamesIn x 0 l := by
  rw [gamesIn, gamesIn_shift]
  have e0 : ([(a : Int), (b : Int), (z : Int)] : List Int).getD 0 0 = a := rfl
  have e1 : ([(a : Int), (b : Int), (z : Int)] : List Int).getD 1 0 = b := rfl
  have e2 : ([(a : Int), (b : Int), (z : Int)] : List Int).getD 2 0 = z := rfl
  rw [e0, e1, e2, Int.toNat_natCast, Int.toNat_natCast]
  have h1 := bit_iff x a
  have h2 := bit_iff x b
  by_cases h : x / 2 ^ a % 2 = 1 ∧ x / 2 ^ b % 2 = 1
  · rw [if_pos h, if_pos ⟨h1.1 h.1, h2.1 h.2⟩]; omega
  · rw [if_neg h, if_neg (fun e => h ⟨h1.2 e.1, h2.2 e.2⟩)]
theorem gamesIn_super {n : Nat} : ∀ (l : List (List Int)) (x y : Nat), (∀ g ∈ l, ∃ x y z : Nat, g = [(x : Int), (y : Int), (z : Int)] ∧ x < y ∧ y < n ∧ 1 ≤ z ∧ z ≤ 20) →
    gamesIn x 0 l + gamesIn y 0 l ≤ gamesIn (x ||| y) 0 l + gamesIn (x &&& y) 0 l
  | [], _, _, _ => by simp [gamesIn]
  | g :: l, x, y, h => by
    obtain ⟨a, b, z, rfl, _, _, _, _⟩ := h g (by simp)
    have ih := gamesIn_super l x y (fun g hg => h g (by simp [hg]))
    rw [gamesIn_cons, gamesIn_cons, gamesIn_cons, gamesIn_cons, Nat.testBit_or, Nat.testBit_or, Nat.testBit_and, Nat.testBit_and]
    cases x.testBit a <;> cases x.testBit b <;> cases y.testBit a <;> cases y.testBit b <;> simp <;> omega
theorem gamesIn_zero : ∀ (l : List (List Int)), gamesIn 0 0 l = 0
  | [] => rfl
  | g :: l => by rw [gamesIn, if_neg (by simp)]; exact gamesIn_zero l

/-- What a set has more than its clubs may have. -/
def over (wins : List Int) (left : List (List Int)) (best : Int) (x : Nat) : Int := winsIn 0 x wins + gamesIn x 0 left - winsIn 0 x (List.replicate wins.length 1) * best
theorem over_zero (wins : List Int) (left : List (List Int)) (best : Int) : over wins left best 0 = 0 := by
  simp [over, winsIn_zero, gamesIn_zero]
theorem over_super {n : Nat} {wins : List Int} {left : List (List Int)} (best : Int) (hg : ∀ g ∈ left, ∃ x y z : Nat, g = [(x : Int), (y : Int), (z : Int)] ∧ x < y ∧ y < n ∧ 1 ≤ z ∧ z ≤ 20) (x y : Nat) :
    over wins left best x + over wins left best y ≤ over wins left best (x ||| y) + over wins left best (x &&& y) := by
  have h1 := winsIn_mod wins x y
  have h2 := winsIn_mod (List.replicate wins.length 1) x y
  have h3 := gamesIn_super left x y hg
  simp only [over]
  have h4 : (winsIn 0 (x ||| y) (List.replicate wins.length 1) + winsIn 0 (x &&& y) (List.replicate wins.length 1)) * best = (winsIn 0 x (List.replicate wins.length 1) + winsIn 0 y (List.replicate wins.length 1)) * best := by rw [h2]
  rw [Int.add_mul, Int.add_mul] at h4
  omega
def Fits (wins : List Int) (left : List (List Int)) (club : Nat) (best : Int) : Prop := ∀ x, 1 ≤ x → x < 2 ^ wins.length → x.testBit club = false → over wins left best x ≤ 0
theorem isProof_iff (wins : List Int) (left : List (List Int)) (club : Nat) (best : Int) (x : Nat) : isProof wins left club best x = true ↔ x.testBit club = false ∧ 0 < over wins left best x := by
  have e : (x / 2 ^ club % 2 = 1) = (x.testBit club = true) := propext (bit_iff x club)
  simp only [isProof, Bool.and_eq_true, Bool.not_eq_true', decide_eq_false_iff_not, decide_eq_true_eq, e, bits_ones, over, Bool.not_eq_true]
  rw [gamesIn_shift]
  constructor <;> rintro ⟨h1, h2⟩ <;> exact ⟨h1, by omega⟩
theorem fits_iff (wins : List Int) (left : List (List Int)) (club : Nat) (best : Int) : proofAt wins left club best = 0 ↔ Fits wins left club best := by
  have h1 : 1 ≤ 2 ^ wins.length := Nat.one_le_two_pow
  rw [proofAt, firstIn_zero _ _ _ (by omega)]
  constructor
  · intro h x h2 h3 h4
    have h5 := h x h2 (by omega)
    by_cases h6 : 0 < over wins left best x
    · rw [(isProof_iff wins left club best x).2 ⟨h4, h6⟩] at h5; cases h5
    · omega
  · intro h x h2 h3
    cases h5 : isProof wins left club best x
    · rfl
    · obtain ⟨h6, h7⟩ := (isProof_iff wins left club best x).1 h5
      have := h x h2 (by omega) h6
      omega
theorem least_of (P : Nat → Prop) : ∀ (z : Nat), P z → ∃ f, f ≤ z ∧ P f ∧ ∀ j, j < f → ¬ P j := by
  intro z
  induction z using Nat.strongRecOn with
  | ind z ih =>
    intro h
    by_cases h1 : ∃ j, j < z ∧ P j
    · obtain ⟨j, hj, hp⟩ := h1
      obtain ⟨f, h2, h3, h4⟩ := ih j hj hp
      exact ⟨f, by omega, h3, h4⟩
    · exact ⟨z, Nat.le_refl _, h, fun j hj hp => h1 ⟨j, hj, hp⟩⟩
/-- A result of a game that a club's chance allows. -/
def allowed (club a b z f : Nat) : Bool := !((decide (a = club) && decide (f < z)) || (decide (b = club) && decide (0 < f)))
def nextOf (now : List Int) (a b z f : Nat) : List Int := addAt (addAt now a (f : Int)) b ((z : Int) - (f : Int))
theorem nextOf_len (now : List Int) (a b z f : Nat) : (nextOf now a b z f).length = now.length := by rw [nextOf, addAt_len, addAt_len]
theorem over_next {now : List Int} {a b : Nat} (z f : Nat) (L : List (List Int)) (best : Int) (x : Nat) (ha : a < now.length) (hb : b < now.length) :
    over (nextOf now a b z f) L best x = over now L best x + (if x.testBit a = true then (f : Int) else 0) + (if x.testBit b = true then (z : Int) - f else 0) := by
  rw [over, nextOf_len, over, nextOf, winsIn_addAt _ _ _ _ (by rw [addAt_len]; exact hb), winsIn_addAt _ _ _ _ ha]
  omega
theorem over_game (now : List Int) (a b z : Nat) (L : List (List Int)) (best : Int) (x : Nat) :
    over now ([(a : Int), (b : Int), (z : Int)] :: L) best x = over now L best x + (if x.testBit a = true ∧ x.testBit b = true then (z : Int) else 0) := by
  rw [over, over, gamesIn_cons]
  omega
theorem split_of {n : Nat} {now : List Int} {a b z club : Nat} {L : List (List Int)} {best : Int} (hg : ∀ g ∈ L, ∃ x y z : Nat, g = [(x : Int), (y : Int), (z : Int)] ∧ x < y ∧ y < n ∧ 1 ≤ z ∧ z ≤ 20)
    (ha : a < now.length) (hb : b < now.length) (hab : a < b) (h : Fits now ([(a : Int), (b : Int), (z : Int)] :: L) club best) :
    ∃ f, f ≤ z ∧ allowed club a b z f = true ∧ Fits (nextOf now a b z f) L club best := by
  by_cases hac : a = club
  · refine ⟨z, Nat.le_refl _, by simp [allowed]; omega, fun x h1 h2 h3 => ?_⟩
    rw [nextOf_len] at h2
    have h4 := h x h1 h2 h3
    rw [over_game, hac, h3] at h4
    rw [over_next _ _ _ _ _ ha hb, hac, h3]
    simp at h4 ⊢
    omega
  · by_cases hbc : b = club
    · refine ⟨0, Nat.zero_le _, by simp [allowed]; omega, fun x h1 h2 h3 => ?_⟩
      rw [nextOf_len] at h2
      have h4 := h x h1 h2 h3
      rw [over_game, hbc, h3] at h4
      rw [over_next _ _ _ _ _ ha hb, hbc, h3]
      simp at h4 ⊢
      omega
    · obtain ⟨f, hf, hP, hmin⟩ := least_of (fun f => ∀ T, T < 2 ^ now.length → T.testBit club = false → T.testBit b = true → T.testBit a = false → over now L best T + ((z : Int) - (f : Int)) ≤ 0) z (fun T h2 h3 h4 h5 => by
        have h1 : 1 ≤ T := by
          rcases Nat.eq_zero_or_pos T with rfl | h1
          · simp at h4
          · exact h1
        have h6 := h T h1 h2 h3
        rw [over_game, h5] at h6
        simp at h6
        omega)
      refine ⟨f, hf, by simp [allowed, hac, hbc], fun x h1 h2 h3 => ?_⟩
      rw [nextOf_len] at h2
      have h4 := h x h1 h2 h3
      rw [over_game] at h4
      rw [over_next _ _ _ _ _ ha hb]
      cases hxa : x.testBit a <;> cases hxb : x.testBit b
      · rw [hxa, hxb] at h4; simp at h4 ⊢; omega
      · have := hP x h2 h3 hxb hxa
        simp; omega
      · simp
        rcases Nat.eq_zero_or_pos f with rfl | hf0
        · rw [hxa, hxb] at h4; simp at h4 ⊢; omega
        · have h5 := hmin (f - 1) (by omega)
          simp only [Classical.not_forall] at h5
          obtain ⟨T, t1, t2, t3, t4, t5⟩ := h5
          have h6 := over_super (wins := now) best hg x T
          have hu := h (x ||| T) (by
              rcases Nat.eq_zero_or_pos (x ||| T) with e | e
              · have : (x ||| T).testBit a = true := by rw [Nat.testBit_or, hxa]; rfl
                rw [e] at this; simp at this
              · exact e) (Nat.or_lt_two_pow h2 t1) (by rw [Nat.testBit_or, h3, t2]; rfl)
          rw [over_game, Nat.testBit_or, Nat.testBit_or, hxa, t3] at hu
          have hi : over now L best (x &&& T) ≤ 0 := by
            rcases Nat.eq_zero_or_pos (x &&& T) with e | e
            · rw [e, over_zero]; exact Int.le_refl _
            · have := h (x &&& T) e (Nat.lt_of_le_of_lt Nat.and_le_left h2) (by rw [Nat.testBit_and, h3]; rfl)
              rw [over_game, Nat.testBit_and, Nat.testBit_and, hxb] at this
              simpa using this
          simp at hu
          omega
      · rw [hxa, hxb] at h4; simp at h4 ⊢; omega

/-- The least number from s on that fits; s + f if there is none. -/
def pickF (P : Nat → Bool) : Nat → Nat → Nat
  | 0, s => s
  | f + 1, s => if P s = true then s else pickF P f (s + 1)
theorem pickF_spec (P : Nat → Bool) : ∀ (f s : Nat), (∃ k, s ≤ k ∧ k < s + f ∧ P k = true) → P (pickF P f s) = true ∧ s ≤ pickF P f s ∧ pickF P f s < s + f ∧ ∀ j, s ≤ j → j < pickF P f s → P j = false
  | 0, s, ⟨k, h1, h2, _⟩ => by omega
  | f + 1, s, ⟨k, h1, h2, h3⟩ => by
    rw [pickF]
    by_cases h : P s = true
    · rw [if_pos h]; exact ⟨h, Nat.le_refl _, by omega, fun j h4 h5 => by omega⟩
    · rw [if_neg h]
      have hk : s ≠ k := fun e => h (by rw [e]; exact h3)
      obtain ⟨p1, p2, p3, p4⟩ := pickF_spec P f (s + 1) ⟨k, by omega, by omega, h3⟩
      refine ⟨p1, by omega, by omega, fun j h4 h5 => ?_⟩
      rcases Nat.eq_or_lt_of_le h4 with rfl | h6
      · simpa using h
      · exact p4 j (by omega) h5
/-- Whether a result of the next game keeps a club's chance. -/
def keeps (now : List Int) (L : List (List Int)) (club : Nat) (best : Int) (a b z f : Nat) : Bool := allowed club a b z f && decide (proofAt (nextOf now a b z f) L club best = 0)
def chanceFrom (club : Nat) (best : Int) : List Int → List (List Int) → List (List Int)
  | _, [] => []
  | now, g :: L =>
    let a := (g.getD 0 0).toNat
    let b := (g.getD 1 0).toNat
    let z := (g.getD 2 0).toNat
    let f := pickF (keeps now L club best a b z) (z + 1) 0
    [(f : Int), (z : Int) - (f : Int)] :: chanceFrom club best (nextOf now a b z f) L
/-- What a round of the search finds. -/
structure Pick (now : List Int) (L : List (List Int)) (club : Nat) (best : Int) (a b z F : Nat) : Prop where
  le : F ≤ z
  ok : allowed club a b z F = true
  fits : proofAt (nextOf now a b z F) L club best = 0
  min : ∀ j, j < F → allowed club a b z j = true → proofAt (nextOf now a b z j) L club best ≠ 0
theorem chance_step {n : Nat} {now : List Int} {a b z club : Nat} {L : List (List Int)} {best : Int} (hg : ∀ g ∈ L, ∃ x y z : Nat, g = [(x : Int), (y : Int), (z : Int)] ∧ x < y ∧ y < n ∧ 1 ≤ z ∧ z ≤ 20)
    (ha : a < now.length) (hb : b < now.length) (hab : a < b) (h : proofAt now ([(a : Int), (b : Int), (z : Int)] :: L) club best = 0) :
    ∃ F, Pick now L club best a b z F ∧ chanceFrom club best now ([(a : Int), (b : Int), (z : Int)] :: L) = [(F : Int), (z : Int) - (F : Int)] :: chanceFrom club best (nextOf now a b z F) L := by
  obtain ⟨f, h1, h2, h3⟩ := split_of hg ha hb hab ((fits_iff _ _ _ _).1 h)
  have hs := pickF_spec (keeps now L club best a b z) (z + 1) 0 ⟨f, Nat.zero_le _, by omega, by rw [keeps, h2, (fits_iff _ _ _ _).2 h3]; rfl⟩
  refine ⟨pickF (keeps now L club best a b z) (z + 1) 0, ⟨by omega, ?_, ?_, fun j h4 h5 h6 => ?_⟩, rfl⟩
  · have := hs.1; rw [keeps, Bool.and_eq_true] at this; exact this.1
  · have := hs.1; rw [keeps, Bool.and_eq_true, decide_eq_true_eq] at this; exact this.2
  · have := hs.2.2.2 j (Nat.zero_le _) h4
    rw [keeps, h5, h6] at this
    cases this
theorem chanceFrom_len (club : Nat) (best : Int) : ∀ (left : List (List Int)) (now : List Int), (chanceFrom club best now left).length = left.length
  | [], _ => rfl
  | g :: L, now => by rw [chanceFrom]; simp [chanceFrom_len club best L]

/-! ### What the reference asks: the games of others, the club's own wins all won -/
def restOf (club : Nat) (L : List (List Int)) : List (List Int) := L.filter fun g => !(decide (g.getD 0 0 = (club : Int))) && !(decide (g.getD 1 0 = (club : Int)))
theorem restOf_snoc (club : Nat) (L : List (List Int)) (g : List Int) : restOf club (L ++ [g]) = if g.getD 0 0 ≠ (club : Int) ∧ g.getD 1 0 ≠ (club : Int) then restOf club L ++ [g] else restOf club L := by
  rw [restOf, List.filter_append, ← restOf, List.filter_cons, List.filter_nil]
  by_cases h : g.getD 0 0 ≠ (club : Int) ∧ g.getD 1 0 ≠ (club : Int)
  · rw [if_pos h, if_pos (by simp only [Bool.and_eq_true, Bool.not_eq_true', decide_eq_false_iff_not]; exact h)]
  · rw [if_neg h, if_neg (by simp only [Bool.and_eq_true, Bool.not_eq_true', decide_eq_false_iff_not]; exact h), List.append_nil]
theorem gamesIn_rest {n club x : Nat} (hx : x.testBit club = false) : ∀ (L : List (List Int)), (∀ g ∈ L, ∃ x y z : Nat, g = [(x : Int), (y : Int), (z : Int)] ∧ x < y ∧ y < n ∧ 1 ≤ z ∧ z ≤ 20) → gamesIn x 0 (restOf club L) = gamesIn x 0 L
  | [], _ => rfl
  | g :: L, h => by
    obtain ⟨a, b, z, rfl, _, _, _, _⟩ := h g (by simp)
    have ih := gamesIn_rest hx L (fun g hg => h g (by simp [hg]))
    have e0 : ([(a : Int), (b : Int), (z : Int)] : List Int).getD 0 0 = a := rfl
    have e1 : ([(a : Int), (b : Int), (z : Int)] : List Int).getD 1 0 = b := rfl
    rw [gamesIn_cons]
    unfold restOf
    rw [List.filter_cons, e0, e1]
    by_cases h0 : a = club
    · subst h0
      rw [if_neg (by simp), if_neg (by simp [hx])]
      unfold restOf at ih; omega
    · by_cases h1 : b = club
      · subst h1
        rw [if_neg (by simp), if_neg (by simp [hx])]
        unfold restOf at ih; omega
      · rw [if_pos (by simp [Int.natCast_inj, h0, h1]), gamesIn_cons]
        unfold restOf at ih; omega
theorem leftOf_rest (club : Nat) : ∀ (L : List (List Int)), leftOf (club : Int) 0 (restOf club L) = 0
  | [] => rfl
  | g :: L => by
    have ih := leftOf_rest club L
    unfold restOf at ih ⊢
    rw [List.filter_cons]
    split
    · rename_i h
      simp only [Bool.and_eq_true, Bool.not_eq_true', decide_eq_false_iff_not] at h
      rw [leftOf, if_neg (by rintro (e | e); exact h.1 e; exact h.2 e)]
      exact ih
    · exact ih
theorem winsIn_set : ∀ (l : List Int) (x k : Nat) (v : Int), x.testBit k = false → winsIn 0 x (l.set k v) = winsIn 0 x l
  | [], _, _, _, _ => rfl
  | u :: l, x, 0, v, h => by rw [List.set_cons_zero, winsIn_cons, winsIn_cons, h]; rfl
  | u :: l, x, k + 1, v, h => by
    rw [List.set_cons_succ, winsIn_cons, winsIn_cons, winsIn_set l (x / 2) k v (by rw [← Nat.testBit_succ]; exact h)]
theorem winsIn_one : ∀ (l : List Int) (k : Nat), k < l.length → winsIn 0 (2 ^ k) l = l.getD k 0
  | [], _, h => by simp at h
  | u :: l, 0, _ => by rw [winsIn_cons]; simp [winsIn_zero]
  | u :: l, k + 1, h => by
    rw [winsIn_cons, Nat.testBit_two_pow_of_ne (by omega), Nat.pow_succ, Nat.mul_div_cancel _ (by decide), winsIn_one l k (by simpa using h)]
    simp
theorem rest_fits {n : Nat} {now : List Int} {L : List (List Int)} {club : Nat} (best : Int) (hg : ∀ g ∈ L, ∃ x y z : Nat, g = [(x : Int), (y : Int), (z : Int)] ∧ x < y ∧ y < n ∧ 1 ≤ z ∧ z ≤ 20) :
    Fits (now.set club best) (restOf club L) club best ↔ Fits now L club best := by
  have h : ∀ x, x.testBit club = false → over (now.set club best) (restOf club L) best x = over now L best x := fun x hx => by
    rw [over, over, winsIn_set _ _ _ _ hx, gamesIn_rest hx L hg, List.length_set]
  constructor
  · intro hf x h1 h2 h3
    rw [← h x h3]; exact hf x h1 (by rw [List.length_set]; exact h2) h3
  · intro hf x h1 h2 h3
    rw [h x h3]; exact hf x h1 (by rwa [List.length_set] at h2) h3
theorem fits_one {n : Nat} {now : List Int} {L : List (List Int)} {club : Nat} {best : Int} (hg : ∀ g ∈ L, ∃ x y z : Nat, g = [(x : Int), (y : Int), (z : Int)] ∧ x < y ∧ y < n ∧ 1 ≤ z ∧ z ≤ 20) (h : Fits now L club best)
    {k : Nat} (hk : k < now.length) (hkc : k ≠ club) : now.getD k 0 ≤ best := by
  have h1 := h (2 ^ k) Nat.one_le_two_pow (Nat.pow_lt_pow_right (by decide) hk) (Nat.testBit_two_pow_of_ne hkc)
  have h2 := (gamesIn_bound (n := n) (2 ^ k) L 0 hg).1
  rw [over, winsIn_one _ _ hk, winsIn_one _ _ (by simpa using hk)] at h1
  rw [List.getD_eq_getElem?_getD (l := List.replicate _ _), List.getElem?_replicate, if_pos hk] at h1
  simp only [Option.getD_some] at h1
  omega
/-- The test in the reference's words. -/
theorem rest_proof {n : Nat} {now : List Int} {L : List (List Int)} {club : Nat} (best : Int) (hg : ∀ g ∈ L, ∃ x y z : Nat, g = [(x : Int), (y : Int), (z : Int)] ∧ x < y ∧ y < n ∧ 1 ≤ z ∧ z ≤ 20) (hc : club < now.length) :
    proofAt (now.set club best) (restOf club L) club ((now.set club best).getD club 0 + leftOf (club : Int) 0 (restOf club L)) = 0 ↔ proofAt now L club best = 0 := by
  have e : (now.set club best).getD club 0 = best := by rw [List.getD_eq_getElem?_getD, List.getElem?_set, if_pos rfl, if_pos hc]; rfl
  rw [e, leftOf_rest, Int.add_zero, fits_iff, fits_iff, rest_fits best hg]
end Go.Proofs.Ytdgmmgaihgpccaa
