
/- What the law on venues wants of a valid plan, in plain Lean. No program in sight. -/
import Derived.Test.YtfkccgblgjpalaaGreatVenA
import Derived.Test.YtfkccgblgjpalaaGreatPatsOf
import Derived.Test.YtfkccgblgjpalaaGreatBreaks
import Derived.Test.YtfkccgblgjpalaaGreatRoundRobin
import Derived.Test.YtfkccgblgjpalaaGreatRepT
import Derived.Test.YtfkccgblgjpalaaGreatMeetAt
import Derived.Test.YtfkccgblgjpalaaGreatRobin2
namespace Go.Proofs.YtfkccgblgjpalaaGreat
set_option linter.unusedVariables false
set_option linter.unusedSimpArgs false
open Go.RowKit

def sg (plan : List (List Int)) (r k : Nat) : Nat := (opp ((plan.getD r []).getD k 0)).toNat
def hm (plan : List (List Int)) (r k : Nat) : Bool := decide (0 < (plan.getD r []).getD k 0)
section
variable {n : Nat} {plan : List (List Int)}
theorem ven_cell (hp : planOk n plan = true) {r k : Nat} (hr : r < plan.length) (hk : k < n) :
    (sg plan r k < n ∧ sg plan r (sg plan r k) = k ∧ sg plan r k ≠ k ∧ hm plan r (sg plan r k) = !hm plan r k) ∧ oppIn n plan r k = (sg plan r k : Int) := by
  have P := plan_of hp
  obtain ⟨rd, hrd⟩ := some_of hr
  have hl := P.rlen hrd
  obtain ⟨v, hv⟩ := some_of (l := rd) (k := k) (by omega)
  have C := P.cell hrd hv
  have e1 : plan.getD r [] = rd := by rw [List.getD_eq_getElem?_getD, hrd]; rfl
  have e2 : rd.getD k 0 = v := by rw [List.getD_eq_getElem?_getD, hv]; rfl
  have h0 := C.opp0
  have h1 := C.oppn
  have h2 := C.ne
  have h3 := C.ne0
  obtain ⟨j, hj⟩ := Int.eq_ofNat_of_zero_le h0
  have hb := C.back
  rw [hj, Int.toNat_natCast] at hb
  have e3 : sg plan r k = j := by rw [sg, e1, e2, hj, Int.toNat_natCast]
  have e4 : rd.getD j 0 = ((k : Int) + 1) * sgn (-v) := by rw [List.getD_eq_getElem?_getD, hb]; rfl
  rw [e3]
  have hs : (0 < v ∧ ((k : Int) + 1) * sgn (-v) = -((k : Int) + 1)) ∨ (v < 0 ∧ ((k : Int) + 1) * sgn (-v) = (k : Int) + 1) := by
    rcases Int.lt_or_gt_of_ne h3 with h | h
    · right; refine ⟨h, ?_⟩; rw [sgn, if_pos (by omega)]; omega
    · left; refine ⟨h, ?_⟩; rw [sgn, if_neg (by omega)]; omega
  refine ⟨⟨by omega, ?_, by omega, ?_⟩, ?_⟩
  · rw [sg, e1, e4]; unfold opp; rcases hs with ⟨_, h⟩ | ⟨_, h⟩ <;> rw [h] <;> omega
  · rw [hm, hm, e1, e4, e2, Bool.eq_iff_iff, Bool.not_eq_true', decide_eq_true_iff, decide_eq_false_iff_not]
    rcases hs with ⟨h4, h⟩ | ⟨h4, h⟩ <;> rw [h] <;> omega
  · have ha : atPlan n plan (r : Int) (k : Int) = true := by
      simp only [atPlan, hp, Bool.true_and, Bool.and_eq_true, inR, decide_eq_true_eq]; omega
    rw [oppIn, if_pos ha, Int.toNat_natCast, Int.toNat_natCast, e1, e2, hj]
theorem ven_of (hp : planOk n plan = true) {k : Nat} (hk : k < n) : venues n plan k = strOfNums (plan.map (ven k)) := by
  have ho : ofPlan n plan (k : Int) = true := by simp only [ofPlan, hp, Bool.true_and, inR, Bool.and_eq_true, decide_eq_true_eq]; omega
  rw [venues, if_pos ho, Int.toNat_natCast]
theorem ven_size (hp : planOk n plan = true) {k : Nat} (hk : k < n) : (venues n plan k).size = plan.length := by rw [ven_of hp hk, strOfNums_size, List.length_map]
theorem ven_byte (hp : planOk n plan = true) {r k : Nat} (hr : r < plan.length) (hk : k < n) : (venues n plan k).data.toList[r]? = some (if hm plan r k = true then 72 else 65) := by
  obtain ⟨rd, hrd⟩ := some_of hr
  have e1 : plan.getD r [] = rd := by rw [List.getD_eq_getElem?_getD, hrd]; rfl
  rw [ven_of hp hk, strOfNums_data, List.getElem?_map, List.getElem?_map, hrd, hm, e1]
  simp only [Option.map_some, Option.some.injEq, decide_eq_true_eq, ven]
  split <;> rfl
theorem pats_eq (hp : planOk n plan = true) : patsF n plan = patsFrom n plan n 0 := by rw [patsF, if_pos hp, Int.toNat_natCast]
theorem pats_len (hp : planOk n plan = true) : (patsF n plan).length = n := by rw [pats_eq hp, patsFrom_length]
theorem pats_at (hp : planOk n plan = true) {k : Nat} (hk : k < n) : (patsF n plan)[k]? = some (venues n plan k) := by
  rw [pats_eq hp, patsFrom_at _ _ _ _ _ hk, Nat.zero_add]
theorem pats_mem (hp : planOk n plan = true) {v : ByteArray} (h : v ∈ patsF n plan) : ∃ k, k < n ∧ v = venues n plan k := by
  obtain ⟨k, hk⟩ := List.getElem?_of_mem h
  have h1 := lt_of hk
  rw [pats_len hp] at h1
  rw [pats_at hp h1] at hk
  injection hk with hk
  exact ⟨k, h1, hk.symm⟩
theorem pats_head (hp : planOk n plan = true) : ((patsF n plan).headD ByteArray.empty).size = plan.length := by
  have h2 := (plan_of hp).two
  have h0 := pats_at hp (k := 0) (by omega)
  cases hc : patsF n plan with
  | nil => rw [hc] at h0; simp at h0
  | cons a l =>
    rw [hc] at h0
    simp at h0
    rw [List.headD_cons, h0]; exact ven_size hp (k := 0) (by omega)
theorem home_at (hp : planOk n plan = true) {r : Nat} (hr : r < plan.length) {k : Nat} (hk : k < n) : (homeL (patsF n plan) r).getD k false = hm plan r k := by
  rw [homeL, List.getD_eq_getElem?_getD, List.getElem?_map, pats_at hp hk, Option.map_some, Option.getD_some, ven_byte hp hr hk]
  cases hm plan r k <;> decide
theorem ven_patOk (hp : planOk n plan = true) {k : Nat} (hk : k < n) : patOk (venues n plan k) = true := by
  have h36 := (plan_of hp).len
  rw [patOk, ven_size hp hk, decide_eq_true h36, Bool.true_and, List.all_eq_true]
  intro b hb
  obtain ⟨r, hr⟩ := List.getElem?_of_mem hb
  have hl := lt_of hr
  rw [bytes_len, ven_size hp hk] at hl
  rw [ven_byte hp hl hk] at hr
  injection hr with hr
  rw [← hr]; split <;> rfl
theorem pats_ok (hp : planOk n plan = true) : patsOk (patsF n plan) = true := by
  have P := plan_of hp
  have hc : isClubsB (n : Int) = true := by simp only [planOk, Bool.and_eq_true] at hp; exact hp.1.1
  rw [patsOk, pats_len hp, hc, Bool.true_and, List.all_eq_true]
  intro v hv
  obtain ⟨k, hk, rfl⟩ := pats_mem hp hv
  rw [fits, ven_patOk hp hk, pats_head hp, ven_size hp hk]; simp
/-- The games within a set, in a round. -/
def gamesAt (plan : List (List Int)) (n x r : Nat) : Nat := sumN (fun k => one (inX x k && inX x (sg plan r k) && decide (k < sg plan r k))) n
theorem games_most (hp : planOk n plan = true) (x : Nat) : sumN (gamesAt plan n x) plan.length ≤ mostN (patsF n plan) x := by
  rw [mostN, pats_head hp, most_sum, Nat.zero_add]
  refine sumN_le _ (fun r hr => ?_)
  have := round_most (ss := patsF n plan) (a := 0 + r) (s := sg plan r) (h := hm plan r) x (fun k hk => by rw [pats_len hp] at hk ⊢; exact (ven_cell hp hr hk).1) (fun k hk => by rw [pats_len hp] at hk; rw [Nat.zero_add]; exact home_at hp hr hk)
  rw [pats_len hp] at this
  exact this
theorem inX_all (n k : Nat) (h : k < n) : inX (2 ^ n - 1) k = true := by
  have h1 := Nat.testBit_eq_decide_div_mod_eq (x := 2 ^ n - 1) (i := k)
  rw [Nat.testBit_two_pow_sub_one, decide_eq_true h] at h1
  rw [inX]; exact h1.symm
theorem pats_even (hp : planOk n plan = true) : evenF (patsF n plan) = true := by
  rw [evenF, pats_ok hp, Bool.true_and, pats_head hp]
  suffices h : ∀ (f a : Nat), a + f ≤ plan.length → evenFrom (patsF n plan) f a = true from h _ 0 (by omega)
  intro f
  induction f with
  | zero => intro a _; rfl
  | succ f ih =>
    intro a ha
    rw [evenFrom, ih (a + 1) (by omega), Bool.and_true, decide_eq_true_iff]
    have hl : (homeL (patsF n plan) a).length = n := by simp [homeL, pats_len hp]
    have h1 := homesIn_all (homeL (patsF n plan) a) 0 n (by omega)
    rw [homes_sum, Nat.zero_add, Nat.zero_add, hl] at h1
    have hc : cntH (patsF n plan) a = sumN (fun k => one (hm plan a k)) n := by
      rw [cntH, pats_len hp, ← h1]
      exact sumN_congr n (fun k hk => by rw [home_at hp (by omega) hk, inX_all n k hk, Bool.true_and])
    obtain ⟨_, e2⟩ := pairs_home (u := fun _ => true) n (fun k hk => (ven_cell hp (show a < plan.length by omega) hk).1)
    simp only [Bool.true_and] at e2
    have ht : sumN (fun k => one (hm plan a k) + one (!hm plan a k)) n = n := by
      have : ∀ m, sumN (fun k => one (hm plan a k) + one (!hm plan a k)) m = m := by
        intro m
        induction m with
        | zero => rfl
        | succ m ih => rw [sumN, ih]; cases hm plan a m <;> rfl
      exact this n
    rw [sumN_add] at ht
    rw [hc, pats_len hp]; omega
theorem meet_mem (hp : planOk n plan = true) {r k : Nat} (hr : r < plan.length) (hk : k < n) : (r : Int) ∈ meetF (patsF n plan) (k : Int) (sg plan r k : Int) := by
  obtain ⟨⟨h1, _, _, h4⟩, _⟩ := ven_cell hp hr hk
  have hok : okMeet (patsF n plan) (k : Int) (sg plan r k : Int) = true := by
    simp only [okMeet, pats_ok hp, Bool.true_and, pats_len hp, inR, Bool.and_eq_true, decide_eq_true_eq]; omega
  rw [meetF, if_pos hok, Int.toNat_natCast, Int.toNat_natCast, pats_head hp, List.getD_eq_getElem?_getD, List.getD_eq_getElem?_getD, pats_at hp hk, pats_at hp h1, Option.getD_some, Option.getD_some]
  have hne : ¬ (venues n plan k).data.toList[r]? = (venues n plan (sg plan r k : Nat)).data.toList[r]? := by
    rw [ven_byte hp hr hk, ven_byte hp hr h1, h4]
    cases hm plan r k <;> decide
  suffices h : ∀ (f a : Nat), a ≤ r → r < a + f → (r : Int) ∈ meetFrom (venues n plan k) (venues n plan (sg plan r k : Nat)) f a from h _ 0 (by omega) (by omega)
  intro f
  induction f with
  | zero => intro a h h2; omega
  | succ f ih =>
    intro a h h2
    rw [meetFrom]
    by_cases e : a = r
    · subst e
      rw [if_neg hne]; exact List.mem_cons_self
    · have := ih (a + 1) (by omega) (by omega)
      split
      · exact this
      · exact List.mem_cons_of_mem _ this
end
end Go.Proofs.YtfkccgblgjpalaaGreat
