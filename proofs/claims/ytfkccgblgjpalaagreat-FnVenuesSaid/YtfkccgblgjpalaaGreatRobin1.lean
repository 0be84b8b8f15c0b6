
/- Contracts: ranges, numbers of clubs, opponents, signs; when a plan is valid (program and reference). -/
import Derived.Test.YtfkccgblgjpalaaGreatHelp
import Derived.Test.YtfkccgblgjpalaaGreatClubs
namespace Go.Proofs.YtfkccgblgjpalaaGreat
open Go.RowKit

def sgn (v : Int) : Int := if 0 < v then 1 else -1
def opp (v : Int) : Int := max v (-v) - 1

set_option maxHeartbeats 400000 in
theorem sign_c (v : Int) (w : World) : Calls Tryz.prog 41 #[.int .i64 v] w (Quiet w (.int .i64 (sgn v))) := by
  generalize hR : sgn v = R
  have HR := Lib.hid hR
  clear hR
  by_cases h1 : 0 < v
  all_goals
    go_enter Tryz.func41, Tryz.ntmps41
    go_wp2
    go_ret
    exact ⟨ret_int (by rw [← HR.out]; unfold sgn; split <;> (first | rfl | omega)), Dr.refl _⟩

set_option maxHeartbeats 400000 in
theorem l16Other_c (v : Int) (w : World) (h1 : -1000 ≤ v) (h2 : v ≤ 1000) : Calls Tryz.prog 38 #[.int .i64 v] w (Quiet w (.int .i64 (opp v))) := by
  generalize hR : opp v = R
  have HR := Lib.hid hR
  clear hR
  go_enter Tryz.func38, Tryz.ntmps38
  go_wp2
  all_goals
    go_ret
    exact ⟨ret_int (by rw [← HR.out]; unfold opp; omega), Dr.refl _⟩

set_option maxHeartbeats 400000 in
theorem opponent_c (A : Option Addr) (c : Nat) (xs : List Int) (k : Int) (v : Int) (w : World) (ha : Ints w A xs) (hx : xs[k.toNat]? = some v) (h0 : 0 ≤ k) (h1 : -1000 ≤ v) (h2 : v ≤ 1000) :
    Calls Tryz.prog 40 #[.slice A xs.length c, .int .i64 k] w (Quiet w (.int .i64 (opp v))) := by
  generalize hR : opp v = R
  have HR := Lib.hid hR
  clear hR
  obtain ⟨j, rfl⟩ := Int.eq_ofNat_of_zero_le h0
  rw [Int.toNat_natCast] at hx
  obtain ⟨ad, rfl, hca⟩ := ha j v hx
  have hlt : j < xs.length := lt_of hx
  have Ha := Lib.hid ha
  have Hx := Lib.hid hx
  clear ha hx
  go_enter Tryz.func40, Tryz.ntmps40
  go_wp2
  go_quiet (fail)
  go_wp2
  all_goals
    go_ret
    exact ⟨ret_int (by rw [← HR.out]; unfold opp; omega), ⟨_, rfl⟩⟩

/-! ### Valid plans -/
def cellOk (n : Int) (round : List Int) (k : Nat) (v : Int) : Bool :=
  !decide (v = 0) && inR v (-n) n && !decide (opp v = k) && decide (round.getD (opp v).toNat 0 = ((k : Int) + 1) * sgn (-v))
def cellsOk (n : Int) (round : List Int) : Nat → List Int → Bool
  | _, [] => true
  | k, v :: r => cellOk n round k v && cellsOk n round (k + 1) r
def roundOk (n : Int) (round : List Int) : Bool := decide ((round.length : Int) = n) && cellsOk n round 0 round
def planOk (n : Int) (plan : List (List Int)) : Bool := isClubsB n && decide (plan.length ≤ 36) && plan.all (roundOk n)

set_option maxHeartbeats 1000000 in
theorem iPlanOk_c (n : Int) (A : Option Addr) (c : Nat) (plan : List (List Int)) (w : World) (ha : Rows w A plan) (hm : plan.length ≤ 1048576) :
    Calls Tryz.prog 8 #[.int .i64 n, .slice A plan.length c] w (Quiet w (.bool (planOk n plan))) := by
  generalize hR : planOk n plan = R
  have HR := Lib.hid hR
  have Ha := Lib.hid ha
  clear hR ha
  cases hb : isClubsB n
  · have Hb := Lib.hid hb
    clear hb
    go_enter Tryz.func8, Tryz.ntmps8
    go_wp2_with (go_at_call 34; refine (calls_v (isClubs_c _ _) (congrArg Value.bool Hb.out)).mono ?_; rintro e w1 ⟨rfl, hq⟩)
    go_ret
    exact ⟨ret_bool (by rw [← HR.out]; simp [planOk, Hb.out]), hq⟩
  · obtain ⟨hn1, hn2, hn3⟩ := isClubs_true hb
    have Hn3 := Lib.hid hn3
    have Hb := Lib.hid hb
    clear hb hn3
    by_cases hp : plan.length ≤ 36
    · have HS : Hid (plan.all (roundOk n) = R) := Lib.hid (by rw [← HR.out]; simp [planOk, Hb.out, hp])
      go_enter Tryz.func8, Tryz.ntmps8
      go_wp2_with (go_at_call 34; refine (calls_v (isClubs_c _ _) (congrArg Value.bool Hb.out)).mono ?_; rintro e w1 ⟨rfl, hq⟩)
      have Hq := Lib.hid hq
      clear hq
      go_loopw [19] (fun i wr => ∃ k : Nat, k ≤ plan.length ∧ i = .int .i64 k ∧ (plan.drop k).all (roundOk n) = R ∧ Dr w wr) (fun i _ => plan.length - (intOf i).toNat)
      case atStart => exact ⟨0, Nat.zero_le _, rfl, HS.out, Hq.out⟩
      case round =>
        obtain ⟨k, hk, rfl, hS, hd⟩ := hrel
        have Hd := Lib.hid hd
        have HS := Lib.hid hS
        clear hd hS
        by_cases hlt : k < plan.length
        · obtain ⟨round, hx⟩ := some_of hlt
          obtain ⟨ad, a, c', rfl, hl1, hl2, hca, hia⟩ := Ha.out.keep Hd.out.keep k _ hx
          have HS2 : Hid ((roundOk n round && (plan.drop (k + 1)).all (roundOk n)) = R) := Lib.hid (by have := HS.out; rwa [drop_of hx, List.all_cons] at this)
          have Hx := Lib.hid hx
          have Hia := Lib.hid hia
          clear hx hia hl1 hl2
          by_cases hlen : (round.length : Int) = n
          · have hne : ((round.length : Int) != n) = false := by simpa using hlen
            have HS3 : Hid ((cellsOk n round 0 round && (plan.drop (k + 1)).all (roundOk n)) = R) := Lib.hid (by rw [← HS2.out]; simp [roundOk, hlen])
            have Hlen := Lib.hid hlen
            clear hlen
            go_wp2
            obtain ⟨wo, hwo⟩ : ∃ wo : World, wo = wr := ⟨_, rfl⟩
            rw [← hwo] at hca Hd Hia ⊢
            clear hwo wr
            go_loopw [29] (fun i wr => ∃ j : Nat, j ≤ round.length ∧ i = .int .i64 j ∧ (cellsOk n round j (round.drop j) && (plan.drop (k + 1)).all (roundOk n)) = R ∧ Dr wo wr) (fun i _ => round.length - (intOf i).toNat)
            case atStart => exact ⟨0, Nat.zero_le _, rfl, HS3.out, Dr.refl _⟩
            case round =>
              obtain ⟨j, hj, rfl, hS, hd⟩ := hrel
              have Hd2 := Lib.hid hd
              have HS4 := Lib.hid hS
              clear hd hS
              by_cases hlt2 : j < round.length
              · obtain ⟨v, hv⟩ := some_of hlt2
                obtain ⟨bd, rfl, hcb⟩ := Hia.out.keep Hd2.out.keep j v hv
                have HS5 : Hid ((cellOk n round j v && cellsOk n round (j + 1) (round.drop (j + 1)) && (plan.drop (k + 1)).all (roundOk n)) = R) := Lib.hid (by have := HS4.out; rwa [drop_of hv, cellsOk] at this)
                have Hv := Lib.hid hv
                clear hv
                have htr := Hd.out.trans Hd2.out
                have Htr := Lib.hid htr
                clear htr
                by_cases hv0 : v = 0
                · subst hv0
                  go_wp2
                  go_quiet (fail)
                  go_wp2
                  go_ret
                  exact ⟨ret_bool (by rw [← HS5.out]; simp [cellOk]), Htr.out.dN _⟩
                · have hv0' : (v == 0) = false := by simpa using hv0
                  have wn : IntKind.i64.wrap (-n) = -n := IntWalk.i64_in _ (by omega)
                  cases hw : inR v (-n) n
                  · have Hw := Lib.hid hw
                    clear hw
                    go_wp2
                    go_quiet ((go_at_call 39; exact quiet_call (calls_v (within_c _ _ _ _) (congrArg Value.bool Hw.out))))
                    go_wp2
                    go_ret
                    exact ⟨ret_bool (by rw [← HS5.out]; simp [cellOk, Hw.out]), Htr.out.dN _⟩
                  · obtain ⟨hw1, hw2⟩ := inR_true hw
                    have Hw := Lib.hid hw
                    clear hw
                    have hv1 : -1000 ≤ v := by omega
                    have hv2 : v ≤ 1000 := by omega
                    have hop1 : 0 ≤ opp v := by unfold opp; omega
                    have hop2 : opp v < round.length := by have := Hlen.out; unfold opp; omega
                    have Hop : ∀ m, Calls Tryz.prog 40 #[.slice (some bd) round.length c', .int .i64 j] (wr.drewN m) (Quiet (wr.drewN m) (.int .i64 (opp v))) := fun m =>
                      opponent_c _ _ _ _ _ _ ((Hia.out.keep Hd2.out.keep).drewN m) (by simpa using Hv.out) (by omega) hv1 hv2
                    have HOp := Lib.hid Hop
                    clear Hop
                    by_cases hok : opp v = j
                    · have hok' : (opp v == (j : Int)) = true := by simpa using hok
                      have Hok := Lib.hid hok
                      clear hok
                      go_wp2
                      go_quiet ((first | (go_at_call 39; exact quiet_call (calls_v (within_c _ _ _ _) (congrArg Value.bool Hw.out))) | (go_at_call 40; exact quiet_call (HOp.out _))))
                      go_wp2
                      go_ret
                      exact ⟨ret_bool (by rw [← HS5.out]; simp [cellOk, Hok.out]), Htr.out.dN _⟩
                    · have hok' : (opp v == (j : Int)) = false := by simpa using hok
                      have Hok := Lib.hid hok
                      clear hok
                      obtain ⟨o, ho⟩ : ∃ o : Nat, opp v = o := ⟨(opp v).toNat, by omega⟩
                      obtain ⟨u, hu⟩ := some_of (l := round) (k := o) (by omega)
                      obtain ⟨bd', hbd, hcu⟩ := Hia.out.keep Hd2.out.keep o u hu
                      obtain rfl : bd = bd' := by injection hbd
                      have Hgd : Hid (round.getD (opp v).toNat 0 = u) := Lib.hid (by rw [ho, Int.toNat_natCast, List.getD_eq_getElem?_getD, hu]; rfl)
                      have ho2 : o < round.length := lt_of hu
                      have hoj : ((o : Int) == (j : Int)) = false := by have := Hok.out; rw [ho] at this; simpa using this
                      have hoj2 : (o == j) = false := by have := Hok.out; rw [ho] at this; simp; omega
                      have Ho := Lib.hid ho
                      have hsg : sgn (-v) = 1 ∨ sgn (-v) = -1 := by unfold sgn; split <;> simp
                      obtain ⟨s, hs⟩ : ∃ s, sgn (-v) = s := ⟨_, rfl⟩
                      have hs1 : -1 ≤ s := by omega
                      have hs2 : s ≤ 1 := by omega
                      have Hs := Lib.hid hs
                      clear hu hbd ho hop1 hop2 hsg hs
                      have hmul1 : -((j : Int) + 1) ≤ ((j : Int) + 1) * s := by
                        rcases (by omega : s = -1 ∨ s = 0 ∨ s = 1) with rfl | rfl | rfl <;> omega
                      have hmul2 : ((j : Int) + 1) * s ≤ (j : Int) + 1 := by
                        rcases (by omega : s = -1 ∨ s = 0 ∨ s = 1) with rfl | rfl | rfl <;> omega
                      have hlen' : (round.length : Int) ≤ 10 := by have := Hlen.out; omega
                      have wv : IntKind.i64.wrap (-v) = -v := IntWalk.i64_in _ (by omega)
                      have wj : IntKind.i64.wrap ((j : Int) + 1) = (j : Int) + 1 := IntWalk.i64_in _ (by omega)
                      have wm : IntKind.i64.wrap (((j : Int) + 1) * s) = ((j : Int) + 1) * s := IntWalk.i64_in _ (by omega)
                      by_cases huv : u = ((j : Int) + 1) * s
                      · have huv' : (u != ((j : Int) + 1) * s) = false := by simpa using huv
                        have Huv := Lib.hid huv
                        clear huv
                        go_wp2
                        go_quiet ((first | (go_at_call 39; exact quiet_call (calls_v (within_c _ _ _ _) (congrArg Value.bool Hw.out))) | (go_at_call 40; exact quiet_call (calls_v (HOp.out _) (congrArg (Value.int .i64) Ho.out))) | (go_at_call 41; exact quiet_call (calls_v (sign_c _ _) (congrArg (Value.int .i64) Hs.out)))))
                        go_wp2
                        go_roundw
                        case rel => exact ⟨j + 1, by omega, by go_num, by rw [← HS5.out]; have h1 := Hw.out; have h2 := Hok.out; have h3 := Hgd.out; have h4 := Huv.out; have h5 := Hs.out; simp only [cellOk, h1, h3, h4, h5]; simp [hv0, h2], Hd2.out.dN _⟩
                        case measure => simp [intOf]; omega
                      · have huv' : (u != ((j : Int) + 1) * s) = true := by simpa using huv
                        have Huv := Lib.hid huv
                        clear huv
                        go_wp2
                        go_quiet ((first | (go_at_call 39; exact quiet_call (calls_v (within_c _ _ _ _) (congrArg Value.bool Hw.out))) | (go_at_call 40; exact quiet_call (calls_v (HOp.out _) (congrArg (Value.int .i64) Ho.out))) | (go_at_call 41; exact quiet_call (calls_v (sign_c _ _) (congrArg (Value.int .i64) Hs.out)))))
                        go_wp2
                        go_ret
                        exact ⟨ret_bool (by rw [← HS5.out]; have h3 := Hgd.out; have h4 := Huv.out; have h5 := Hs.out; simp only [cellOk, h3, h5]; simp [h4]), Htr.out.dN _⟩
              · obtain rfl : j = round.length := by omega
                have HS6 : Hid ((plan.drop (k + 1)).all (roundOk n) = R) := Lib.hid (by have := HS4.out; rwa [List.drop_length, cellsOk, Bool.true_and] at this)
                go_wp2
                go_roundw
                case rel => exact ⟨k + 1, by omega, by go_num, HS6.out, Hd.out.trans Hd2.out⟩
                case measure => simp [intOf]; omega
          · have hne : ((round.length : Int) != n) = true := by simpa using hlen
            have Hlen := Lib.hid hlen
            clear hlen
            go_wp2
            go_ret
            exact ⟨ret_bool (by rw [← HS2.out]; simp [roundOk, Hlen.out]), Hd.out⟩
        · obtain rfl : k = plan.length := by omega
          go_wp2
          go_ret
          exact ⟨ret_bool (by have := HS.out; rwa [List.drop_length, List.all_nil] at this), Hd.out⟩
    · go_enter Tryz.func8, Tryz.ntmps8
      go_wp2_with (go_at_call 34; refine (calls_v (isClubs_c _ _) (congrArg Value.bool Hb.out)).mono ?_; rintro e w1 ⟨rfl, hq⟩)
      go_ret
      exact ⟨ret_bool (by rw [← HR.out]; simp [planOk]; omega), hq⟩

theorem cellsOk_false {n : Int} {round : List Int} : ∀ (r : List Int) (k j : Nat) (v : Int), r[j]? = some v → cellOk n round (k + j) v = false → cellsOk n round k r = false
  | [], _, _, _, h, _ => by simp at h
  | x :: r, k, 0, v, h, hc => by simp at h; subst h; simp only [Nat.add_zero] at hc; simp [cellsOk, hc]
  | x :: r, k, j + 1, v, h, hc => by
    have := cellsOk_false r (k + 1) j v (by simpa using h) (by rw [← hc]; congr 1; omega)
    simp [cellsOk, this]
theorem cellOk_spec {n v u : Int} {round : List Int} {k : Nat} (hv : inR v (-n) n = true) (hv0 : v ≠ 0) (hu0 : u ≠ 0) (hg : round.getD (opp v).toNat 0 = u) (hk : opp v ≠ k) :
    cellOk n round k v = (decide (opp u = k) && !(decide (0 < v) == decide (0 < u))) := by
  unfold cellOk
  rw [hg, hv]
  simp only [hv0, decide_false, Bool.not_false, Bool.true_and, hk]
  rw [Bool.eq_iff_iff]
  simp only [decide_eq_true_eq, Bool.and_eq_true, Bool.not_eq_true', beq_eq_false_iff_ne, ne_eq, decide_eq_decide]
  unfold opp sgn
  constructor
  · intro h
    split at h <;> omega
  · rintro ⟨h1, h2⟩
    split <;> omega

set_option maxHeartbeats 2000000 in
theorem sPlanOk_c (n : Int) (A : Option Addr) (c : Nat) (plan : List (List Int)) (w : World) (ha : Rows w A plan) (hm : plan.length ≤ 1048576) :
    Calls Tryz.prog 7 #[.int .i64 n, .slice A plan.length c] w (Quiet w (.bool (planOk n plan))) := by
  generalize hR : planOk n plan = R
  have HR := Lib.hid hR
  have Ha := Lib.hid ha
  clear hR ha
  cases hb : isClubsB n
  · have Hb := Lib.hid hb
    clear hb
    go_enter Tryz.func7, Tryz.ntmps7
    go_wp2_with (go_at_call 36; refine (calls_v (l16Size_c _ _) (congrArg Value.bool Hb.out)).mono ?_; rintro e w1 ⟨rfl, hq⟩)
    go_ret
    exact ⟨ret_bool (by rw [← HR.out]; simp [planOk, Hb.out]), hq⟩
  · obtain ⟨hn1, hn2, hn3⟩ := isClubs_true hb
    have Hn3 := Lib.hid hn3
    have Hb := Lib.hid hb
    clear hb hn3
    by_cases hp : plan.length ≤ 36
    · have HS : Hid (plan.all (roundOk n) = R) := Lib.hid (by rw [← HR.out]; simp [planOk, Hb.out, hp])
      go_enter Tryz.func7, Tryz.ntmps7
      go_wp2_with (go_at_call 36; refine (calls_v (l16Size_c _ _) (congrArg Value.bool Hb.out)).mono ?_; rintro e w1 ⟨rfl, hq⟩)
      have Hq := Lib.hid hq
      clear hq
      go_loopw [22] (fun i wr => ∃ k : Nat, k ≤ plan.length ∧ i = .int .i64 k ∧ (plan.drop k).all (roundOk n) = R ∧ Dr w wr) (fun i _ => plan.length - (intOf i).toNat)
      case atStart => exact ⟨0, Nat.zero_le _, rfl, HS.out, Hq.out⟩
      case round =>
        obtain ⟨k, hk, rfl, hS, hd⟩ := hrel
        have Hd := Lib.hid hd
        have HS := Lib.hid hS
        clear hd hS
        by_cases hlt : k < plan.length
        · obtain ⟨round, hx⟩ := some_of hlt
          obtain ⟨ad, a, c', rfl, hl1, hl2, hca, hia⟩ := Ha.out.keep Hd.out.keep k _ hx
          have HS2 : Hid ((roundOk n round && (plan.drop (k + 1)).all (roundOk n)) = R) := Lib.hid (by have := HS.out; rwa [drop_of hx, List.all_cons] at this)
          have Hx := Lib.hid hx
          have Hia := Lib.hid hia
          clear hx hia hl1 hl2
          by_cases hlen : (round.length : Int) = n
          · have hne : ((round.length : Int) != n) = false := by simpa using hlen
            have HS3 : Hid ((cellsOk n round 0 round && (plan.drop (k + 1)).all (roundOk n)) = R) := Lib.hid (by rw [← HS2.out]; simp [roundOk, hlen])
            have hlen' : (round.length : Int) ≤ 10 := by omega
            have Hlen := Lib.hid hlen
            clear hlen
            go_wp2
            obtain ⟨wo, hwo⟩ : ∃ wo : World, wo = wr := ⟨_, rfl⟩
            rw [← hwo] at hca Hd Hia ⊢
            clear hwo wr
            go_loopw [32] (fun i wr => ∃ j : Nat, j ≤ round.length ∧ i = .int .i64 j ∧ (∀ (i : Nat) (v : Int), i < j → round[i]? = some v → inR v (-n) n = true ∧ v ≠ 0) ∧ Dr wo wr) (fun i _ => round.length - (intOf i).toNat)
            case atStart => exact ⟨0, Nat.zero_le _, rfl, fun i v h => by omega, Dr.refl _⟩
            case round =>
              obtain ⟨j, hj, rfl, hS, hd⟩ := hrel
              have Hd2 := Lib.hid hd
              have HV := Lib.hid hS
              clear hd hS
              have htr := Hd.out.trans Hd2.out
              have Htr := Lib.hid htr
              clear htr
              have wn : IntKind.i64.wrap (-n) = -n := IntWalk.i64_in _ (by omega)
              by_cases hlt2 : j < round.length
              · obtain ⟨v, hv⟩ := some_of hlt2
                obtain ⟨bd, rfl, hcb⟩ := Hia.out.keep Hd2.out.keep j v hv
                have Hv := Lib.hid hv
                clear hv
                cases hw : inR v (-n) n
                · have Hw := Lib.hid hw
                  clear hw
                  go_wp2_with (go_at_call 37; refine (calls_v (l01In_c _ _ _ _) (congrArg Value.bool Hw.out)).mono ?_; rintro e w1 ⟨rfl, hq⟩)
                  go_ret
                  exact ⟨ret_bool (by rw [← HS3.out, cellsOk_false round 0 j v Hv.out (by simp [cellOk, Hw.out])]; rfl), Htr.out.trans hq⟩
                · have Hw := Lib.hid hw
                  clear hw
                  by_cases hv0 : v = 0
                  · subst hv0
                    go_wp2_with (go_at_call 37; refine (calls_v (l01In_c _ _ _ _) (congrArg Value.bool Hw.out)).mono ?_; rintro e w1 ⟨rfl, hq⟩)
                    go_ret
                    exact ⟨ret_bool (by rw [← HS3.out, cellsOk_false round 0 j 0 Hv.out (by simp [cellOk])]; rfl), Htr.out.trans hq⟩
                  · have hv0' : (v == 0) = false := by simpa using hv0
                    go_wp2_with (go_at_call 37; refine (calls_v (l01In_c _ _ _ _) (congrArg Value.bool Hw.out)).mono ?_; rintro e w1 ⟨rfl, hq⟩)
                    go_roundw
                    case rel => exact ⟨j + 1, by omega, by go_num, fun i u hi hu => by
                      rcases (by omega : i < j ∨ i = j) with h | rfl
                      · exact HV.out i u h hu
                      · rw [Hv.out] at hu; injection hu with hu; subst hu; exact ⟨Hw.out, hv0⟩, Hd2.out.trans hq⟩
                    case measure => simp [intOf]; omega
              · obtain rfl : j = round.length := by omega
                go_wp2
                obtain ⟨wi, hwi⟩ : ∃ wi : World, wi = wr := ⟨_, rfl⟩
                rw [← hwi] at Hd2 Htr ⊢
                clear hwi wr
                go_loopw [49] (fun i wr => ∃ j : Nat, j ≤ round.length ∧ i = .int .i64 j ∧ (cellsOk n round j (round.drop j) && (plan.drop (k + 1)).all (roundOk n)) = R ∧ Dr wi wr) (fun i _ => round.length - (intOf i).toNat)
                case atStart => exact ⟨0, Nat.zero_le _, rfl, HS3.out, Dr.refl _⟩
                case round =>
                  obtain ⟨j, hj, rfl, hS, hd⟩ := hrel
                  have Hd3 := Lib.hid hd
                  have HS4 := Lib.hid hS
                  clear hd hS
                  have htr2 := Htr.out.trans Hd3.out
                  have Htr2 := Lib.hid htr2
                  clear htr2
                  by_cases hlt2 : j < round.length
                  · obtain ⟨v, hv⟩ := some_of hlt2
                    obtain ⟨hvr, hv0⟩ := HV.out j v hlt2 hv
                    obtain ⟨bd, rfl, hcb⟩ := (Hia.out.keep Hd2.out.keep).keep Hd3.out.keep j v hv
                    have HS5 : Hid ((cellOk n round j v && cellsOk n round (j + 1) (round.drop (j + 1)) && (plan.drop (k + 1)).all (roundOk n)) = R) := Lib.hid (by have := HS4.out; rwa [drop_of hv, cellsOk] at this)
                    obtain ⟨hw1, hw2⟩ := inR_true hvr
                    have hop1 : 0 ≤ opp v := by unfold opp; omega
                    have hop2 : opp v < round.length := by have := Hlen.out; unfold opp; omega
                    obtain ⟨o, ho⟩ : ∃ o : Nat, opp v = o := ⟨(opp v).toNat, by omega⟩
                    obtain ⟨u, hu⟩ := some_of (l := round) (k := o) (by omega)
                    obtain ⟨bd', hbd, hcu⟩ := (Hia.out.keep Hd2.out.keep).keep Hd3.out.keep o u hu
                    obtain rfl : bd = bd' := by injection hbd
                    have ho2 : o < round.length := lt_of hu
                    obtain ⟨hur, hu0⟩ := HV.out o u ho2 hu
                    obtain ⟨hu1, hu2⟩ := inR_true hur
                    have Hgd : Hid (round.getD (opp v).toNat 0 = u) := Lib.hid (by rw [ho, Int.toNat_natCast, List.getD_eq_getElem?_getD, hu]; rfl)
                    have Hvr := Lib.hid hvr
                    have Hv := Lib.hid hv
                    have Ho := Lib.hid ho
                    clear hv hvr hur hu hbd ho hop1 hop2
                    by_cases hok : o = j
                    · subst hok
                      clear hcu
                      go_wp2_with fail
                      refine (calls_v (l16Other_c _ _ (by omega) (by omega)) (congrArg (Value.int .i64) Ho.out)).mono ?_
                      rintro e w1 ⟨rfl, hq⟩
                      go_wp2_with fail
                      go_ret
                      exact ⟨ret_bool (by rw [← HS5.out]; simp [cellOk, Ho.out]), Htr2.out.trans hq⟩
                    · have hoj : ((o : Int) == (j : Int)) = false := by simp; omega
                      have hoj2 : (o == j) = false := by simp; omega
                      have Hce := Lib.hid (cellOk_spec Hvr.out hv0 hu0 Hgd.out (k := j) (by rw [Ho.out]; omega))
                      by_cases huj : opp u = j
                      · have huj1 : ((opp u) != (j : Int)) = false := by simpa using huj
                        have Huj := Lib.hid huj
                        clear huj
                        by_cases hv3 : 0 < v
                        · by_cases hu3 : 0 < u
                          · go_wp2_with fail
                            refine (calls_v (l16Other_c _ _ (by omega) (by omega)) (congrArg (Value.int .i64) Ho.out)).mono ?_
                            rintro e w1 ⟨rfl, q1, rfl⟩
                            go_wp2_with fail
                            refine (l16Other_c _ _ (by omega) (by omega)).mono ?_
                            rintro e w1 ⟨rfl, q2, rfl⟩
                            go_wp2
                            go_ret
                            exact ⟨ret_bool (by rw [← HS5.out, Hce.out]; rw [decide_eq_true (by omega : 0 < v), decide_eq_true (by omega : 0 < u)]; simp), Htr2.out.dN _⟩
                          · go_wp2_with fail
                            refine (calls_v (l16Other_c _ _ (by omega) (by omega)) (congrArg (Value.int .i64) Ho.out)).mono ?_
                            rintro e w1 ⟨rfl, q1, rfl⟩
                            go_wp2_with fail
                            refine (l16Other_c _ _ (by omega) (by omega)).mono ?_
                            rintro e w1 ⟨rfl, q2, rfl⟩
                            go_wp2
                            go_roundw
                            case rel => exact ⟨j + 1, by omega, by go_num, by rw [← HS5.out, Hce.out]; rw [decide_eq_true (by omega : 0 < v), decide_eq_false (by omega : ¬ 0 < u)]; simp [Huj.out], Hd3.out.dN _⟩
                            case measure => simp [intOf]; omega
                        · have hv4 : decide (0 < v) = false := by simpa using hv3
                          by_cases hu3 : 0 < u
                          · go_wp2_with fail
                            refine (calls_v (l16Other_c _ _ (by omega) (by omega)) (congrArg (Value.int .i64) Ho.out)).mono ?_
                            rintro e w1 ⟨rfl, q1, rfl⟩
                            go_wp2_with fail
                            refine (l16Other_c _ _ (by omega) (by omega)).mono ?_
                            rintro e w1 ⟨rfl, q2, rfl⟩
                            go_wp2
                            go_roundw
                            case rel => exact ⟨j + 1, by omega, by go_num, by rw [← HS5.out, Hce.out]; rw [decide_eq_false (by omega : ¬ 0 < v), decide_eq_true (by omega : 0 < u)]; simp [Huj.out], Hd3.out.dN _⟩
                            case measure => simp [intOf]; omega
                          · have hu4 : decide (0 < u) = false := by simpa using hu3
                            go_wp2_with fail
                            refine (calls_v (l16Other_c _ _ (by omega) (by omega)) (congrArg (Value.int .i64) Ho.out)).mono ?_
                            rintro e w1 ⟨rfl, q1, rfl⟩
                            go_wp2_with fail
                            refine (l16Other_c _ _ (by omega) (by omega)).mono ?_
                            rintro e w1 ⟨rfl, q2, rfl⟩
                            go_wp2
                            go_ret
                            exact ⟨ret_bool (by rw [← HS5.out, Hce.out]; rw [decide_eq_false (by omega : ¬ 0 < v), decide_eq_false (by omega : ¬ 0 < u)]; simp), Htr2.out.dN _⟩
                      · have huj1 : ((opp u) != (j : Int)) = true := by simpa using huj
                        have Huj := Lib.hid huj
                        clear huj
                        go_wp2_with fail
                        refine (calls_v (l16Other_c _ _ (by omega) (by omega)) (congrArg (Value.int .i64) Ho.out)).mono ?_
                        rintro e w1 ⟨rfl, q1, rfl⟩
                        go_wp2_with fail
                        refine (l16Other_c _ _ (by omega) (by omega)).mono ?_
                        rintro e w1 ⟨rfl, q2, rfl⟩
                        go_wp2
                        go_ret
                        exact ⟨ret_bool (by rw [← HS5.out, Hce.out]; simp [Huj.out]), Htr2.out.dN _⟩
                  · obtain rfl : j = round.length := by omega
                    have HS6 : Hid ((plan.drop (k + 1)).all (roundOk n) = R) := Lib.hid (by have := HS4.out; rwa [List.drop_length, cellsOk, Bool.true_and] at this)
                    go_wp2
                    go_roundw
                    case rel => exact ⟨k + 1, by omega, by go_num, HS6.out, Htr.out.trans Hd3.out⟩
                    case measure => simp [intOf]; omega
          · have hne : ((round.length : Int) != n) = true := by simpa using hlen
            have Hlen := Lib.hid hlen
            clear hlen
            go_wp2
            go_ret
            exact ⟨ret_bool (by rw [← HS2.out]; simp [roundOk, Hlen.out]), Hd.out⟩
        · obtain rfl : k = plan.length := by omega
          go_wp2
          go_ret
          exact ⟨ret_bool (by have := HS.out; rwa [List.drop_length, List.all_nil] at this), Hd.out⟩
    · go_enter Tryz.func7, Tryz.ntmps7
      go_wp2_with (go_at_call 36; refine (calls_v (l16Size_c _ _) (congrArg Value.bool Hb.out)).mono ?_; rintro e w1 ⟨rfl, hq⟩)
      go_ret
      exact ⟨ret_bool (by rw [← HR.out]; simp [planOk]; omega), hq⟩
end Go.Proofs.YtfkccgblgjpalaaGreat
