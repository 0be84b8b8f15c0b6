
/- Contracts: the rounds with a break of a club; their number (program and reference). -/
import Derived.Test.YtfkccgblgjpalaaGreatRobin2
namespace Go.Proofs.YtfkccgblgjpalaaGreat
open Go.RowKit

/-- From round r on, u the club's number in the round before. -/
def brk (k : Nat) : Nat → List Int → List (List Int) → List Int
  | _, _, [] => []
  | r, p, x :: t => if sgn (x.getD k 0) = sgn (p.getD k 0) then (r : Int) :: brk k (r + 1) x t else brk k (r + 1) x t
def brkOf (plan : List (List Int)) (k : Nat) : List Int :=
  match plan with
  | [] => []
  | p :: t => brk k 1 p t
theorem brk_length (k : Nat) : ∀ (t : List (List Int)) (r : Nat) (p : List Int), (brk k r p t).length ≤ t.length
  | [], _, _ => by simp [brk]
  | x :: t, r, p => by
    have := brk_length k t (r + 1) x
    simp only [brk]
    split <;> simp <;> omega
theorem brkOf_length (plan : List (List Int)) (k : Nat) : (brkOf plan k).length ≤ plan.length := by
  cases plan with
  | nil => simp [brkOf]
  | cons p t => have := brk_length k t 1 p; simp [brkOf]; omega
theorem sgn_eq {u v : Int} : (sgn u = sgn v) ↔ (decide (0 < u) = decide (0 < v)) := by
  unfold sgn
  by_cases h1 : 0 < u <;> by_cases h2 : 0 < v <;> simp [h1, h2]
theorem sgn_same {u v : Int} (h : sgn u = sgn v) : (0 < u ∧ 0 < v) ∨ (¬ 0 < u ∧ ¬ 0 < v) := by
  have := sgn_eq.1 h
  by_cases h1 : 0 < u <;> by_cases h2 : 0 < v <;> simp_all
theorem sgn_other {u v : Int} (h : ¬ sgn u = sgn v) : (0 < u ∧ ¬ 0 < v) ∨ (¬ 0 < u ∧ 0 < v) := by
  have h3 : ¬ (decide (0 < u) = decide (0 < v)) := fun e => h (sgn_eq.2 e)
  by_cases h1 : 0 < u <;> by_cases h2 : 0 < v <;> simp_all

set_option maxHeartbeats 2000000 in
theorem iBreaks_c (A : Option Addr) (c : Nat) (plan : List (List Int)) (k : Nat) (w : World) (ha : Rows w A plan) (hm : plan.length ≤ 36) (hk : ∀ x ∈ plan, k < x.length) :
    Calls Tryz.prog 42 #[.slice A plan.length c, .int .i64 k] w (GivesI 3 w (brkOf plan k)) := by
  generalize hR : brkOf plan k = R
  have HR := Lib.hid hR
  clear hR
  have Hm := Lib.hid hk
  clear hk
  have Ha := Lib.hid ha
  clear ha
  go_enter Tryz.func42, Tryz.ntmps42
  go_wp2
  go_loopw [5, 6] (fun v i wr => ∃ (j : Nat) (B : Option Addr) (d : Nat) (xs : List Int), 1 ≤ j ∧ j ≤ plan.length + 1 ∧ i = .int .i64 j ∧ v = .slice B xs.length d ∧ Own 3 w.heap.size wr.heap.size wr B d (xs.map (.int .i64)) ∧ Below w.heap.size w wr ∧ xs.length ≤ j ∧ (match plan.drop (j - 1) with | [] => xs = R | x :: t => xs ++ brk k j x t = R)) (fun _ i _ => 40 - (intOf i).toNat)
  case atStart =>
    refine ⟨1, none, 0, [], Nat.le_refl _, by omega, rfl, rfl, Own.nil .., Below.refl _ _, by simp, ?_⟩
    rw [Nat.sub_self, List.drop_zero]
    have := HR.out
    cases plan <;> simpa [brkOf] using this
  case round =>
    obtain ⟨j, B, d, xs, hj1, hj2, rfl, rfl, ho, hb, hxl, hR⟩ := hrel
    have HR_ := Lib.hid hR
    clear hR
    have Ho := Lib.hid ho
    have Hb := Lib.hid hb
    clear ho hb
    by_cases hlt : j < plan.length
    · obtain ⟨p, hp⟩ : ∃ p, j = p + 1 := ⟨j - 1, by omega⟩
      obtain ⟨x, hx⟩ := some_of (l := plan) (k := p) (by omega)
      obtain ⟨y, hy⟩ := some_of hlt
      obtain ⟨u, hu⟩ := some_of (Hm.out x (List.mem_of_getElem? hx))
      obtain ⟨v, hv⟩ := some_of (Hm.out y (List.mem_of_getElem? hy))
      have hkx : k < x.length := lt_of hu
      have hky : k < y.length := lt_of hv
      have hpl : p < plan.length := lt_of hx
      have hin := Ha.out.keep (keep_of_below Hb.out)
      obtain ⟨ad, a1, c1, rfl, _, _, hc1, hi1⟩ := hin p x hx
      obtain ⟨ad', a2, c2, e1, _, _, hc2, hi2⟩ := hin j y hy
      obtain rfl : ad = ad' := by injection e1
      obtain ⟨b1, rfl, hcu⟩ := hi1 k u hu
      obtain ⟨b2, rfl, hcv⟩ := hi2 k v hv
      have hR2 : xs ++ (if sgn v = sgn u then (j : Int) :: brk k (j + 1) y (plan.drop (j + 1)) else brk k (j + 1) y (plan.drop (j + 1))) = R := by
        have := HR_.out
        rw [hp, Nat.add_sub_cancel, drop_of hx, ← hp, drop_of hy] at this
        simpa only [brk, getD_of hu, getD_of hv] using this
      have hnext : plan.drop j = y :: plan.drop (j + 1) := drop_of hy
      have w1 : IntKind.i64.wrap ((j : Int) - 1) = p := by rw [IntWalk.i64_in _ (by omega)]; omega
      have HR2 := Lib.hid hR2
      have HN := Lib.hid hnext
      clear hin e1 hi1 hi2 hx hy hu hv hR2 hnext hp
      by_cases hs : sgn v = sgn u
      · skip
        have hbb : (sgn v == sgn u) = true := by rw [hs]; simp
        have Hs := Lib.hid hs
        clear hs
        go_wp2
        go_quiet ((go_at_call 41; exact quiet_call (sign_c _ _)))
        go_wp2_with (at_builtin; refine wpList_app1 rfl (.tmp 31) (.tmp 33) 36 rfl 3 (.int .i64 0) 8 Tryz.underlying36 info_int rfl w.heap.size B d (xs.map (.int .i64)) ?_ ?_ (.int .i64 j) rfl ?_ ?_ xs.length ?_ ?_ ?_ ?_; exact Ho.out; exact Hb.out.size; (simp; omega); decide; exact (arr_map xs).symm; rfl; rfl; intro B' d' w' ho' hb' _ _)
        have Ho' := Lib.hid ho'
        have Hb' := Lib.hid hb'
        clear ho' hb'
        go_wp2
        go_roundw
        case rel => exact ⟨j + 1, B', d', xs ++ [(j : Int)], by omega, by omega, by go_num, by simp, by simpa using Ho'.out, (Hb.out.trans (below_drewN _ _ _)).trans Hb'.out, by simp; omega, by rw [Nat.add_sub_cancel, HN.out]; have := HR2.out; rw [if_pos Hs.out] at this; simpa using this⟩
        case measure => simp [intOf]; omega
      · skip
        have hbb : (sgn v == sgn u) = false := by simpa using hs
        have Hs := Lib.hid hs
        clear hs
        go_wp2
        go_quiet ((go_at_call 41; exact quiet_call (sign_c _ _)))
        go_wp2
        go_roundw
        case rel => exact ⟨j + 1, B, d, xs, by omega, by omega, by go_num, rfl, Own.wide (Ho.out.stay fun _ _ _ => rfl) (Nat.le_refl _) (Nat.le_refl _), Hb.out.trans (below_drewN _ _ _), by omega, by rw [Nat.add_sub_cancel, HN.out]; have := HR2.out; rwa [if_neg Hs.out] at this⟩
        case measure => simp [intOf]; omega
    · go_wp2
      go_ret
      have h1 := HR_.out
      have h2 : xs = R := by
        cases hd : plan.drop (j - 1) with
        | nil => rw [hd] at h1; exact h1
        | cons x t =>
          rw [hd] at h1
          have h3 := congrArg List.length hd
          rw [List.length_drop, List.length_cons] at h3
          have h4 : t = [] := List.eq_nil_of_length_eq_zero (by omega)
          subst h4
          simpa [brk] using h1
      rw [← h2]
      exact ⟨B, d, rfl, Ho.out, Hb.out⟩

def breaksOf (n : Int) (plan : List (List Int)) (k : Int) : List Int := if ofPlan n plan k then brkOf plan k.toNat else []
def sumUp (f : Nat → Int) (k : Nat) : Nat → Int
  | 0 => 0
  | m + 1 => f k + sumUp f (k + 1) m
def cntBreaks (n : Int) (plan : List (List Int)) : Int := if planOk n plan then sumUp (fun k => ((brkOf plan k).length : Int)) 0 n.toNat else -1

set_option maxHeartbeats 1000000 in
theorem iBreaksOf_c (n : Int) (A : Option Addr) (c : Nat) (plan : List (List Int)) (k : Int) (w : World) (ha : Rows w A plan) (hm : plan.length ≤ 1048576) :
    Calls Tryz.prog 18 #[.int .i64 n, .slice A plan.length c, .int .i64 k] w (GivesI 3 w (breaksOf n plan k)) := by
  generalize hR : breaksOf n plan k = R
  have HR := Lib.hid hR
  clear hR
  have Ha := Lib.hid ha
  clear ha
  cases hp : ofPlan n plan k
  · have Hp := Lib.hid hp
    clear hp
    go_enter Tryz.func18, Tryz.ntmps18
    go_wp2_with fail
    refine (calls_v (isOfPlan_c _ _ _ _ _ _ Ha.out hm) (congrArg Value.bool Hp.out)).mono ?_
    rintro e w1 ⟨rfl, hq⟩
    go_wp2
    go_ret
    have hv : [] = R := by rw [← HR.out, breaksOf, if_neg (by simp [Hp.out])]
    rw [← hv]
    exact ⟨none, 0, rfl, Own.nil .., hq.below _⟩
  · have hP := plan_of (n := n) (plan := plan) (by simp only [ofPlan, Bool.and_eq_true] at hp; exact hp.1)
    obtain ⟨hk1, hk2⟩ := inR_true (n := k) (lo := 0) (hi := n - 1) (by simp only [ofPlan, Bool.and_eq_true] at hp; exact hp.2)
    obtain ⟨k, rfl⟩ := Int.eq_ofNat_of_zero_le hk1
    have h36 := hP.len
    have hkl : ∀ x ∈ plan, k < x.length := fun x hx => by obtain ⟨i, hi⟩ := List.getElem?_of_mem hx; have := hP.rlen hi; omega
    have hval : brkOf plan k = R := by rw [← HR.out, breaksOf, if_pos hp]; rfl
    have Hp := Lib.hid hp
    have HP := Lib.hid hP
    have Hval := Lib.hid hval
    have Hkl := Lib.hid hkl
    clear hp hP hval hkl
    go_enter Tryz.func18, Tryz.ntmps18
    go_wp2_with fail
    refine (calls_v (isOfPlan_c _ _ _ _ _ _ Ha.out hm) (congrArg Value.bool Hp.out)).mono ?_
    rintro e w1 ⟨rfl, hq⟩
    have Hq := Lib.hid hq
    clear hq
    go_wp2_with fail
    refine (iBreaks_c _ _ _ _ _ (Ha.out.keep Hq.out.keep) h36 Hkl.out).mono ?_
    rintro e w2 ⟨B, d, rfl, ho, hb⟩
    have Ho := Lib.hid ho
    have Hb := Lib.hid hb
    clear ho hb
    go_wp2
    go_ret
    rw [← Hval.out]
    exact ⟨B, d, rfl, Ho.out.wide (Hq.out.below 0).size (Nat.le_refl _), (Hq.out.below _).trans (Hb.out.mono (Hq.out.below 0).size)⟩

set_option maxHeartbeats 1000000 in
theorem iCountBreaks_c (n : Int) (A : Option Addr) (c : Nat) (plan : List (List Int)) (w : World) (ha : Rows w A plan) (hm : plan.length ≤ 1048576) :
    Calls Tryz.prog 10 #[.int .i64 n, .slice A plan.length c] w (Gives w (.int .i64 (cntBreaks n plan))) := by
  generalize hR : cntBreaks n plan = R
  have HR := Lib.hid hR
  clear hR
  have Ha := Lib.hid ha
  clear ha
  cases hp : planOk n plan
  · have Hp := Lib.hid hp
    clear hp
    go_enter Tryz.func10, Tryz.ntmps10
    go_wp2_with fail
    refine (calls_v (iPlanOk_c _ _ _ _ _ Ha.out hm) (congrArg Value.bool Hp.out)).mono ?_
    rintro e w1 ⟨rfl, hq⟩
    go_wp2
    go_ret
    exact ⟨ret_int (by rw [← HR.out, cntBreaks, if_neg (by simp [Hp.out])]), hq.below _⟩
  · have hP := plan_of hp
    have h1 := hP.two
    have h2 := hP.ten
    have h36 := hP.len
    obtain ⟨n, rfl⟩ := Int.eq_ofNat_of_zero_le (by omega : 0 ≤ n)
    have hS : sumUp (fun k => ((brkOf plan k).length : Int)) 0 (n - 0) = R := by rw [← HR.out, cntBreaks, if_pos hp]; rfl
    have hkl : ∀ k, k < n → ∀ x ∈ plan, k < x.length := fun k hk x hx => by obtain ⟨i, hi⟩ := List.getElem?_of_mem hx; have := hP.rlen hi; omega
    have Hp := Lib.hid hp
    have HP := Lib.hid hP
    have Hkl := Lib.hid hkl
    have HS := Lib.hid hS
    clear hp hP hkl hS
    go_enter Tryz.func10, Tryz.ntmps10
    go_wp2_with fail
    refine (calls_v (iPlanOk_c _ _ _ _ _ Ha.out hm) (congrArg Value.bool Hp.out)).mono ?_
    rintro e w1 ⟨rfl, hq⟩
    have Hq := Lib.hid hq
    clear hq
    go_wp2
    go_loopw [5, 12] (fun s i wr => ∃ (k : Nat) (z : Int), k ≤ n ∧ i = .int .i64 k ∧ s = .int .i64 z ∧ 0 ≤ z ∧ z ≤ 36 * k ∧ z + sumUp (fun k => ((brkOf plan k).length : Int)) k (n - k) = R ∧ Below w.heap.size w wr) (fun _ i _ => n - (intOf i).toNat)
    case atStart => exact ⟨0, 0, Nat.zero_le _, rfl, rfl, by omega, by omega, by rw [← HS.out]; simp, Hq.out.below _⟩
    case round =>
      obtain ⟨k, z, hk, rfl, rfl, hz1, hz2, hS, hb⟩ := hrel
      have HT := Lib.hid hS
      clear hS
      have Hb := Lib.hid hb
      clear hb
      by_cases hlt : k < n
      · have hT := HT.out
        rw [show n - k = (n - (k + 1)) + 1 from by omega, sumUp] at hT
        have HT2 := Lib.hid hT
        clear hT
        have hbl := brkOf_length plan k
        go_wp2_with fail
        refine (iBreaks_c _ _ _ k _ (Ha.out.keep (keep_of_below Hb.out)) h36 (Hkl.out k hlt)).mono ?_
        rintro e w2 ⟨B, d, rfl, ho, hb2⟩
        have Hb2 := Lib.hid hb2
        clear hb2
        clear ho
        go_wp2
        go_roundw
        case rel => exact ⟨k + 1, _, by omega, by go_num, rfl, by omega, by omega, by rw [← HT2.out]; omega, Hb.out.trans (Hb2.out.mono Hb.out.size)⟩
        case measure => simp [intOf]; omega
      · obtain rfl : k = n := by omega
        go_wp2
        go_ret
        exact ⟨ret_int (by have := HT.out; rw [Nat.sub_self, sumUp] at this; omega), Hb.out⟩
end Go.Proofs.YtfkccgblgjpalaaGreat
