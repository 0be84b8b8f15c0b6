/- Plain facts: sets as numbers, their members, and the proofs that a club is out; no program in sight. -/
import Derived.Test.YtdgmmgaihgpccaaRacer
namespace Go.Proofs.Ytdgmmgaihgpccaa

/-- The members from a on of the set whose part from a on is x. -/
def bitsF : Nat → Nat → Nat → List Nat
  | 0, _, _ => []
  | f + 1, a, x => if x % 2 = 1 then a :: bitsF f (a + 1) (x / 2) else bitsF f (a + 1) (x / 2)
theorem bitsF_zero : ∀ (f a : Nat), bitsF f a 0 = []
  | 0, _ => rfl
  | f + 1, a => by simp [bitsF, bitsF_zero f]
theorem bitsF_lt : ∀ (f a x k : Nat), k ∈ bitsF f a x → a ≤ k ∧ k < a + f
  | 0, _, _, _, h => by simp [bitsF] at h
  | f + 1, a, x, k, h => by
    simp only [bitsF] at h
    split at h
    · rcases List.mem_cons.1 h with rfl | h
      · omega
      · have := bitsF_lt f (a + 1) (x / 2) k h; omega
    · have := bitsF_lt f (a + 1) (x / 2) k h; omega
theorem bitsF_len : ∀ (f a x : Nat), (bitsF f a x).length ≤ f
  | 0, _, _ => by simp [bitsF]
  | f + 1, a, x => by
    have := bitsF_len f (a + 1) (x / 2)
    by_cases h : x % 2 = 1 <;> simp [bitsF, h] <;> omega
theorem bitsF_len_eq : ∀ (f a b x : Nat), (bitsF f a x).length = (bitsF f b x).length
  | 0, _, _, _ => rfl
  | f + 1, a, b, x => by
    have ih := bitsF_len_eq f (a + 1) (b + 1) (x / 2)
    by_cases h : x % 2 = 1 <;> simp [bitsF, h, ih]

def winsIn : Int → Nat → List Int → Int
  | s, _, [] => s
  | s, x, v :: r => winsIn (if x % 2 = 1 then s + v else s) (x / 2) r
def sumAt (wins : List Int) : Int → List Nat → Int
  | s, [] => s
  | s, k :: r => sumAt wins (s + wins.getD k 0) r
theorem sumAt_bits (wins : List Int) : ∀ (f a x : Nat) (s : Int), wins.length = a + f → sumAt wins s (bitsF f a x) = winsIn s x (wins.drop a)
  | 0, a, x, s, h => by rw [List.drop_of_length_le (by omega)]; rfl
  | f + 1, a, x, s, h => by
    obtain ⟨v, hv⟩ := some_of (l := wins) (k := a) (by omega)
    have ih := fun s => sumAt_bits wins f (a + 1) (x / 2) s (by omega)
    rw [drop_of hv]
    simp only [bitsF, winsIn]
    split
    · rw [sumAt, ih]
      simp [hv]
    · rw [ih]
theorem winsIn_bound : ∀ (r : List Int) (x : Nat) (s : Int), (∀ v ∈ r, 0 ≤ v ∧ v ≤ 1000) → s ≤ winsIn s x r ∧ winsIn s x r ≤ s + 1000 * r.length
  | [], _, s, _ => by simp [winsIn]
  | v :: r, x, s, h => by
    have h0 := h v (by simp)
    have := winsIn_bound r (x / 2) (if x % 2 = 1 then s + v else s) (fun v hv => h v (by simp [hv]))
    rw [winsIn]
    simp only [List.length_cons]
    split at this <;> rename_i hc <;> simp only [hc, if_true, if_false] <;> omega
theorem sumAt_bound (wins : List Int) (hw : ∀ v ∈ wins, 0 ≤ v ∧ v ≤ 1000) : ∀ (r : List Nat) (s : Int), s ≤ sumAt wins s r ∧ sumAt wins s r ≤ s + 1000 * r.length
  | [], s => by simp [sumAt]
  | k :: r, s => by
    have h0 : 0 ≤ wins.getD k 0 ∧ wins.getD k 0 ≤ 1000 := by
      rw [List.getD_eq_getElem?_getD]
      cases hk : wins[k]? with
      | none => simp
      | some v => exact hw v (List.mem_of_getElem? hk)
    have := sumAt_bound wins hw r (s + wins.getD k 0)
    rw [sumAt]
    simp only [List.length_cons]
    omega
def gamesIn (x : Nat) : Int → List (List Int) → Int
  | s, [] => s
  | s, g :: r => gamesIn x (if x / 2 ^ (g.getD 0 0).toNat % 2 = 1 ∧ x / 2 ^ (g.getD 1 0).toNat % 2 = 1 then s + g.getD 2 0 else s) r
theorem gamesIn_bound {n : Nat} (x : Nat) : ∀ (r : List (List Int)) (s : Int), (∀ g ∈ r, ∃ x y z : Nat, g = [(x : Int), (y : Int), (z : Int)] ∧ x < y ∧ y < n ∧ 1 ≤ z ∧ z ≤ 20) → s ≤ gamesIn x s r ∧ gamesIn x s r ≤ s + 20 * r.length
  | [], s, _ => by simp [gamesIn]
  | g :: r, s, h => by
    obtain ⟨a, b, z, e, h1, h2, h3, h4⟩ := h g (by simp)
    have e2 : g.getD 2 0 = z := by rw [e]; rfl
    rw [gamesIn, e2, List.length_cons]
    by_cases hc : x / 2 ^ (g.getD 0 0).toNat % 2 = 1 ∧ x / 2 ^ (g.getD 1 0).toNat % 2 = 1
    · have := gamesIn_bound x r (s + z) (fun g hg => h g (by simp [hg]))
      rw [if_pos hc]; omega
    · have := gamesIn_bound x r s (fun g hg => h g (by simp [hg]))
      rw [if_neg hc]; omega
/-- The first number from s on that fits, of f numbers; 0 if there is none. -/
def firstIn (P : Nat → Bool) : Nat → Nat → Nat
  | 0, _ => 0
  | f + 1, s => if P s = true then s else firstIn P f (s + 1)
theorem firstIn_le (P : Nat → Bool) : ∀ (f s : Nat), firstIn P f s ≤ s + f
  | 0, s => by simp [firstIn]
  | f + 1, s => by
    rw [firstIn]
    split
    · omega
    · have := firstIn_le P f (s + 1); omega
theorem firstIn_zero (P : Nat → Bool) : ∀ (f s : Nat), 0 < s → (firstIn P f s = 0 ↔ ∀ k, s ≤ k → k < s + f → P k = false)
  | 0, s, _ => by simp only [firstIn, true_iff]; intro k h1 h2; omega
  | f + 1, s, hs => by
    rw [firstIn]
    by_cases h : P s = true
    · rw [if_pos h]
      constructor
      · omega
      · intro h2; rw [h2 s (by omega) (by omega)] at h; cases h
    · rw [if_neg h, firstIn_zero P f (s + 1) (by omega)]
      constructor
      · intro h2 k h3 h4
        rcases Nat.eq_or_lt_of_le h3 with rfl | h5
        · simpa using h
        · exact h2 k h5 (by omega)
      · intro h2 k h3 h4; exact h2 k (by omega) (by omega)
theorem firstIn_true (P : Nat → Bool) : ∀ (f s : Nat), firstIn P f s ≠ 0 → P (firstIn P f s) = true ∧ s ≤ firstIn P f s ∧ firstIn P f s < s + f
  | 0, s, h => absurd rfl h
  | f + 1, s, h => by
    rw [firstIn] at h ⊢
    by_cases hs : P s = true
    · rw [if_pos hs]; exact ⟨hs, by omega, by omega⟩
    · rw [if_neg hs] at h ⊢
      have := firstIn_true P f (s + 1) h
      exact ⟨this.1, by omega, by omega⟩
def isProof (wins : List Int) (left : List (List Int)) (club : Nat) (best : Int) (x : Nat) : Bool :=
  !decide (x / 2 ^ club % 2 = 1) && decide ((bitsF wins.length 0 x).length * best < gamesIn x (winsIn 0 x wins) left)
def proofAt (wins : List Int) (left : List (List Int)) (club : Nat) (best : Int) : Nat := firstIn (isProof wins left club best) (2 ^ wins.length - 1) 1
end Go.Proofs.Ytdgmmgaihgpccaa
