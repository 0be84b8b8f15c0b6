
/- Contracts: a club of a plan, a round and a club of a plan, an opponent in a round (program and reference). -/
import Derived.Test.YtfkccgblgjpalaaGreatRobin1
namespace Go.Proofs.YtfkccgblgjpalaaGreat
open Go.RowKit

/-! ### What a valid plan is good for -/
theorem cellsOk_at {n : Int} {round : List Int} : ∀ (r : List Int) (k j : Nat) (v : Int), cellsOk n round k r = true → r[j]? = some v → cellOk n round (k + j) v = true
  | [], _, _, _, _, h => by simp at h
  | x :: r, k, 0, v, hc, h => by simp at h; subst h; simp only [cellsOk, Bool.and_eq_true] at hc; exact hc.1
  | x :: r, k, j + 1, v, hc, h => by
    simp only [cellsOk, Bool.and_eq_true] at hc
    have := cellsOk_at r (k + 1) j v hc.2 (by simpa using h)
    rwa [show k + (j + 1) = k + 1 + j from by omega]
structure Cell (n : Int) (round : List Int) (k : Nat) (v : Int) : Prop where
  ne0 : v ≠ 0
  lo : -n ≤ v
  hi : v ≤ n
  opp0 : 0 ≤ opp v
  oppn : opp v < n
  ne : opp v ≠ k
  back : round[(opp v).toNat]? = some (((k : Int) + 1) * sgn (-v))
theorem cell_of {n : Int} {round : List Int} (h : roundOk n round = true) {k : Nat} {v : Int} (hv : round[k]? = some v) : (round.length : Int) = n ∧ Cell n round k v := by
  simp only [roundOk, Bool.and_eq_true, decide_eq_true_eq] at h
  obtain ⟨hl, hc⟩ := h
  have h1 := cellsOk_at round 0 k v hc hv
  simp only [cellOk, Bool.and_eq_true, Bool.not_eq_true', decide_eq_false_iff_not, decide_eq_true_eq, Nat.zero_add] at h1
  obtain ⟨⟨⟨h2, h3⟩, h4⟩, h5⟩ := h1
  obtain ⟨h6, h7⟩ := inR_true h3
  have h8 : 0 ≤ opp v := by unfold opp; omega
  have h9 : opp v < n := by unfold opp; omega
  obtain ⟨u, hu⟩ := some_of (l := round) (k := (opp v).toNat) (by omega)
  rw [List.getD_eq_getElem?_getD, hu] at h5
  exact ⟨hl, h2, h6, h7, h8, h9, h4, by rw [hu]; congr 1⟩
structure Plan (n : Int) (plan : List (List Int)) : Prop where
  two : 2 ≤ n
  ten : n ≤ 10
  even : n % 2 = 0
  len : plan.length ≤ 36
  round : ∀ r ∈ plan, roundOk n r = true
theorem plan_of {n : Int} {plan : List (List Int)} (h : planOk n plan = true) : Plan n plan := by
  simp only [planOk, Bool.and_eq_true, decide_eq_true_eq, List.all_eq_true] at h
  obtain ⟨⟨h1, h2⟩, h3⟩ := h
  obtain ⟨h4, h5, h6⟩ := isClubs_true h1
  exact ⟨h4, h5, h6, h2, h3⟩
theorem Plan.cell {n : Int} {plan : List (List Int)} (h : Plan n plan) {r : Nat} {round : List Int} (hr : plan[r]? = some round) {k : Nat} {v : Int} (hv : round[k]? = some v) : Cell n round k v :=
  (cell_of (h.round _ (List.mem_of_getElem? hr)) hv).2
theorem Plan.rlen {n : Int} {plan : List (List Int)} (h : Plan n plan) {r : Nat} {round : List Int} (hr : plan[r]? = some round) : (round.length : Int) = n := by
  have := h.round _ (List.mem_of_getElem? hr)
  simp only [roundOk, Bool.and_eq_true, decide_eq_true_eq] at this
  exact this.1

def ofPlan (n : Int) (plan : List (List Int)) (k : Int) : Bool := planOk n plan && inR k 0 (n - 1)
set_option maxHeartbeats 1000000 in
theorem isOfPlan_c (n : Int) (A : Option Addr) (c : Nat) (plan : List (List Int)) (k : Int) (w : World) (ha : Rows w A plan) (hm : plan.length ≤ 1048576) :
    Calls Tryz.prog 49 #[.int .i64 n, .slice A plan.length c, .int .i64 k] w (Quiet w (.bool (ofPlan n plan k))) := by
  generalize hR : ofPlan n plan k = R
  have HR := Lib.hid hR
  clear hR
  have Ha := Lib.hid ha
  clear ha
  cases hp : planOk n plan
  · have Hp := Lib.hid hp
    clear hp
    go_enter Tryz.func49, Tryz.ntmps49
    go_wp2_with fail
    refine (calls_v (iPlanOk_c _ _ _ _ _ Ha.out hm) (congrArg Value.bool Hp.out)).mono ?_
    rintro e w1 ⟨rfl, hq⟩
    go_wp2
    go_ret
    exact ⟨ret_bool (by rw [← HR.out]; simp [ofPlan, Hp.out]), hq⟩
  · have hP := plan_of hp
    have h1 := hP.two
    have h2 := hP.ten
    have Hp := Lib.hid hp
    clear hp
    clear hP
    go_enter Tryz.func49, Tryz.ntmps49
    go_wp2_with fail
    refine (calls_v (iPlanOk_c _ _ _ _ _ Ha.out hm) (congrArg Value.bool Hp.out)).mono ?_
    rintro e w1 ⟨rfl, hq⟩
    have Hq := Lib.hid hq
    clear hq
    go_wp2_with fail
    refine (within_c _ _ _ _).mono ?_
    rintro e w2 ⟨rfl, hq⟩
    go_wp2
    go_ret
    exact ⟨ret_bool (by rw [← HR.out]; simp [ofPlan, Hp.out]), Hq.out.trans hq⟩

def atPlan (n : Int) (plan : List (List Int)) (r k : Int) : Bool := planOk n plan && inR r 0 (plan.length - 1) && inR k 0 (n - 1)
set_option maxHeartbeats 1000000 in
theorem l16At_c (n : Int) (A : Option Addr) (c : Nat) (plan : List (List Int)) (r k : Int) (w : World) (ha : Rows w A plan) (hm : plan.length ≤ 1048576) :
    Calls Tryz.prog 77 #[.int .i64 n, .slice A plan.length c, .int .i64 r, .int .i64 k] w (Quiet w (.bool (atPlan n plan r k))) := by
  generalize hR : atPlan n plan r k = R
  have HR := Lib.hid hR
  clear hR
  have Ha := Lib.hid ha
  clear ha
  cases hp : planOk n plan
  · have Hp := Lib.hid hp
    clear hp
    go_enter Tryz.func77, Tryz.ntmps77
    go_wp2_with fail
    refine (calls_v (sPlanOk_c _ _ _ _ _ Ha.out hm) (congrArg Value.bool Hp.out)).mono ?_
    rintro e w1 ⟨rfl, hq⟩
    go_wp2
    go_ret
    exact ⟨ret_bool (by rw [← HR.out]; simp [atPlan, Hp.out]), hq⟩
  · have hP := plan_of hp
    have h1 := hP.two
    have h2 := hP.ten
    have Hp := Lib.hid hp
    clear hp
    clear hP
    cases hr : inR r 0 (plan.length - 1)
    · have Hr := Lib.hid hr
      clear hr
      go_enter Tryz.func77, Tryz.ntmps77
      go_wp2_with fail
      refine (calls_v (sPlanOk_c _ _ _ _ _ Ha.out hm) (congrArg Value.bool Hp.out)).mono ?_
      rintro e w1 ⟨rfl, hq⟩
      have Hq := Lib.hid hq
      clear hq
      go_wp2_with fail
      refine (calls_v (l01In_c _ _ _ _) (congrArg Value.bool Hr.out)).mono ?_
      rintro e w2 ⟨rfl, hq⟩
      go_wp2
      go_ret
      exact ⟨ret_bool (by rw [← HR.out]; simp [atPlan, Hr.out]), Hq.out.trans hq⟩
    · have Hr := Lib.hid hr
      clear hr
      go_enter Tryz.func77, Tryz.ntmps77
      go_wp2_with fail
      refine (calls_v (sPlanOk_c _ _ _ _ _ Ha.out hm) (congrArg Value.bool Hp.out)).mono ?_
      rintro e w1 ⟨rfl, hq⟩
      have Hq := Lib.hid hq
      clear hq
      go_wp2_with fail
      refine (calls_v (l01In_c _ _ _ _) (congrArg Value.bool Hr.out)).mono ?_
      rintro e w2 ⟨rfl, hq⟩
      have Hq2 := Lib.hid hq
      clear hq
      go_wp2_with fail
      refine (l01In_c _ _ _ _).mono ?_
      rintro e w3 ⟨rfl, hq⟩
      go_wp2
      go_ret
      exact ⟨ret_bool (by rw [← HR.out]; simp [atPlan, Hr.out, Hp.out]), (Hq.out.trans Hq2.out).trans hq⟩

def oppIn (n : Int) (plan : List (List Int)) (r k : Int) : Int := if atPlan n plan r k then opp ((plan.getD r.toNat []).getD k.toNat 0) else -1
theorem getD_of {α : Type} {l : List α} {k : Nat} {u d : α} (h : l[k]? = some u) : l.getD k d = u := by rw [List.getD_eq_getElem?_getD, h]; rfl

set_option maxHeartbeats 1000000 in
theorem iOpponentIn_c (n : Int) (A : Option Addr) (c : Nat) (plan : List (List Int)) (r k : Int) (w : World) (ha : Rows w A plan) (hm : plan.length ≤ 1048576) :
    Calls Tryz.prog 22 #[.int .i64 n, .slice A plan.length c, .int .i64 r, .int .i64 k] w (Quiet w (.int .i64 (oppIn n plan r k))) := by
  generalize hR : oppIn n plan r k = R
  have HR := Lib.hid hR
  clear hR
  have Ha := Lib.hid ha
  clear ha
  cases hp : ofPlan n plan k
  · have Hp := Lib.hid hp
    clear hp
    go_enter Tryz.func22, Tryz.ntmps22
    go_wp2_with fail
    refine (calls_v (isOfPlan_c _ _ _ _ _ _ Ha.out hm) (congrArg Value.bool Hp.out)).mono ?_
    rintro e w1 ⟨rfl, hq⟩
    go_wp2
    go_ret
    exact ⟨ret_int (by rw [← HR.out, oppIn, if_neg]; have := Hp.out; simp only [ofPlan, atPlan] at *; revert this; cases planOk n plan <;> cases inR k 0 (n - 1) <;> simp), hq⟩
  · have hP := plan_of (n := n) (plan := plan) (by simp only [ofPlan, Bool.and_eq_true] at hp; exact hp.1)
    have hk := inR_true (n := k) (lo := 0) (hi := n - 1) (by simp only [ofPlan, Bool.and_eq_true] at hp; exact hp.2)
    obtain ⟨hk1, hk2⟩ := hk
    have h1 := hP.two
    have h2 := hP.ten
    have Hp := Lib.hid hp
    have HP := Lib.hid hP
    clear hp hP
    cases hr : inR r 0 (plan.length - 1)
    · have Hr := Lib.hid hr
      clear hr
      go_enter Tryz.func22, Tryz.ntmps22
      go_wp2_with fail
      refine (calls_v (isOfPlan_c _ _ _ _ _ _ Ha.out hm) (congrArg Value.bool Hp.out)).mono ?_
      rintro e w1 ⟨rfl, hq⟩
      have Hq := Lib.hid hq
      clear hq
      go_wp2_with fail
      refine (calls_v (within_c _ _ _ _) (congrArg Value.bool Hr.out)).mono ?_
      rintro e w2 ⟨rfl, hq⟩
      go_wp2
      go_ret
      exact ⟨ret_int (by rw [← HR.out, oppIn, if_neg]; simp [atPlan, Hr.out]), Hq.out.trans hq⟩
    · obtain ⟨hr1, hr2⟩ := inR_true hr
      have hat : atPlan n plan r k = true := by have := Hp.out; simp only [ofPlan, atPlan, Bool.and_eq_true] at *; exact ⟨⟨this.1, hr⟩, this.2⟩
      have Hr := Lib.hid hr
      clear hr
      obtain ⟨r, rfl⟩ := Int.eq_ofNat_of_zero_le hr1
      obtain ⟨k, rfl⟩ := Int.eq_ofNat_of_zero_le hk1
      obtain ⟨round, hx⟩ := some_of (l := plan) (k := r) (by omega)
      have hl := HP.out.rlen hx
      obtain ⟨v, hv⟩ := some_of (l := round) (k := k) (by omega)
      have hC := HP.out.cell hx hv
      have hv1 : -1000 ≤ v := by have := hC.lo; omega
      have hv2 : v ≤ 1000 := by have := hC.hi; omega
      have hrl : r < plan.length := lt_of hx
      have hval : R = opp v := by rw [← HR.out, oppIn, if_pos hat]; simp only [Int.toNat_natCast]; rw [getD_of hx, getD_of hv]
      have Hval := Lib.hid hval
      have Hx := Lib.hid hx
      have Hv := Lib.hid hv
      have Hl := Lib.hid hl
      have HC := Lib.hid hC
      have Hat := Lib.hid hat
      clear hval hx hv hl hC hat
      go_enter Tryz.func22, Tryz.ntmps22
      go_wp2_with fail
      refine (calls_v (isOfPlan_c _ _ _ _ _ _ Ha.out hm) (congrArg Value.bool Hp.out)).mono ?_
      rintro e w1 ⟨rfl, hq⟩
      have Hq := Lib.hid hq
      clear hq
      go_wp2_with fail
      refine (calls_v (within_c _ _ _ _) (congrArg Value.bool Hr.out)).mono ?_
      rintro e w2 ⟨rfl, hq⟩
      have hq2 := Hq.out.trans hq
      obtain ⟨ad, a, c', rfl, _, _, hca, hia⟩ := Ha.out.keep hq2.keep _ _ Hx.out
      have Hq2 := Lib.hid hq2
      have Hia := Lib.hid hia
      clear hq2 hia
      clear hq
      go_wp2_with fail
      refine (opponent_c _ _ _ _ v _ Hia.out (by simpa using Hv.out) (by omega) hv1 hv2).mono ?_
      rintro e w3 ⟨rfl, hq⟩
      go_wp2
      go_ret
      exact ⟨ret_int Hval.out.symm, Hq2.out.trans hq⟩

end Go.Proofs.YtfkccgblgjpalaaGreat
