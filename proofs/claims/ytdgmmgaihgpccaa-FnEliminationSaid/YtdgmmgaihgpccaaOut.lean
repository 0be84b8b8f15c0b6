/- Contracts: whether a club is out, and which are still in (program and reference). -/
import Derived.Test.YtdgmmgaihgpccaaProof
import Derived.Deep.RegionWith
namespace Go.Proofs.Ytdgmmgaihgpccaa
open Go.RowKit

def proofF (wins : List Int) (left : List (List Int)) (k : Int) : Nat := if racer wins left k = true then proofAt wins left k.toNat (wins.getD k.toNat 0 + leftOf k.toNat 0 left) else 0
theorem win_big {wins : List Int} {left : List (List Int)} (h : Race wins left) : ∀ v ∈ wins, 0 ≤ v ∧ v ≤ 1000 := fun v hv => by have := h.win v hv; omega

set_option maxHeartbeats 1000000 in
theorem sProofOut_c (A B : Option Addr) (c d : Nat) (wins : List Int) (left : List (List Int)) (k : Int) (w : World) (ha : Ints w A wins) (hb : Rows w B left) (hm : wins.length ≤ 1048576) (hm2 : left.length ≤ 1048576) (hcap : left.length ≤ d) :
    Calls Try.prog 31 #[.slice A wins.length c, .slice B left.length d, .int .i64 k] w (Gives w (.int .i64 (proofF wins left k : Nat))) := by
  generalize hR : proofF wins left k = R
  have HR := Lib.hid hR
  clear hR
  have Ha := Lib.hid ha
  have Hb := Lib.hid hb
  clear ha hb
  cases h1 : racer wins left k
  · have H1 := Lib.hid h1
    clear h1
    go_enter Try.func31, Try.ntmps31
    go_wp2_with fail
    refine (gives_v (l14Ok_c _ _ _ _ _ _ _ _ Ha.out Hb.out hm hm2 hcap) (congrArg Value.bool H1.out)).mono ?_
    rintro e w1 ⟨rfl, hb1⟩
    go_wp2
    go_ret
    exact ⟨ret_int (by rw [← HR.out]; simp [proofF, H1.out]), hb1⟩
  · have hrace := racer_race h1
    obtain ⟨p, rfl, hp⟩ := racer_club h1
    have HS : Hid (proofAt wins left p (wins.getD p 0 + leftOf p 0 left) = R) := Lib.hid (by rw [← HR.out]; simp [proofF, h1])
    have H1 := Lib.hid h1
    have Hrace := Lib.hid hrace
    clear h1 hrace
    go_enter Try.func31, Try.ntmps31
    go_wp2_with fail
    refine (gives_v (l14Ok_c _ _ _ _ _ _ _ _ Ha.out Hb.out hm hm2 hcap) (congrArg Value.bool H1.out)).mono ?_
    rintro e w1 ⟨rfl, hb1⟩
    have Hb1 := Lib.hid hb1
    clear hb1
    go_wp2_with fail
    refine (calls_v (l14Proof_c _ _ _ _ _ _ _ _ (Ha.out.keep (keep_of_below Hb1.out)) (Hb.out.keep (keep_of_below Hb1.out)) Hrace.out.six (win_big Hrace.out) Hrace.out.games hp) (congrArg (fun x : Nat => Value.int .i64 x) HS.out)).mono ?_
    rintro e w2 ⟨rfl, hq⟩
    go_wp2
    go_ret
    exact ⟨rfl, bel_dr Hb1.out hq⟩

set_option maxHeartbeats 2000000 in
theorem iProofOut_c (A B : Option Addr) (c d : Nat) (wins : List Int) (left : List (List Int)) (k : Int) (w : World) (ha : Ints w A wins) (hb : Rows w B left) (hm : wins.length ≤ 1048576) (hm2 : left.length ≤ 1048576) (hcap : left.length ≤ d) :
    Calls Try.prog 32 #[.slice A wins.length c, .slice B left.length d, .int .i64 k] w (Gives w (.int .i64 (proofF wins left k : Nat))) := by
  generalize hR : proofF wins left k = R
  have HR := Lib.hid hR
  clear hR
  have Ha := Lib.hid ha
  have Hb := Lib.hid hb
  clear ha hb
  cases h1 : racer wins left k
  · have H1 := Lib.hid h1
    clear h1
    go_enter Try.func32, Try.ntmps32
    go_wp2_with fail
    refine (gives_v (isRacer_c _ _ _ _ _ _ _ _ Ha.out Hb.out hm hm2 hcap) (congrArg Value.bool H1.out)).mono ?_
    rintro e w1 ⟨rfl, hb1⟩
    go_wp2
    go_ret
    exact ⟨ret_int (by rw [← HR.out]; simp [proofF, H1.out]), hb1⟩
  · have hrace := racer_race h1
    obtain ⟨p, rfl, hp⟩ := racer_club h1
    obtain ⟨v, hv⟩ := some_of hp
    obtain ⟨best, hbest⟩ : ∃ b, v + leftOf (p : Int) 0 left = b := ⟨_, rfl⟩
    have HS : Hid (proofAt wins left p best = R) := Lib.hid (by rw [← HR.out]; simp [proofF, h1, hv, hbest])
    obtain ⟨v1, v2⟩ := hrace.win v (List.mem_of_getElem? hv)
    obtain ⟨l1, l2⟩ := leftOf_bound (n := wins.length) (p : Int) left 0 hrace.games.game
    have hfew := hrace.games.few
    have wv : IntKind.i64.wrap (v + leftOf (p : Int) 0 left) = best := by rw [← hbest]; exact IntWalk.i64_in _ (by omega)
    have hb0 : 0 ≤ best := by omega
    have hb1' : best ≤ 100000 := by omega
    have H1 := Lib.hid h1
    have Hrace := Lib.hid hrace
    have Hv := Lib.hid hv
    have Hbest := Lib.hid hbest
    clear h1 hrace hv hbest
    go_enter Try.func32, Try.ntmps32
    go_wp2_with fail
    refine (gives_v (isRacer_c _ _ _ _ _ _ _ _ Ha.out Hb.out hm hm2 hcap) (congrArg Value.bool H1.out)).mono ?_
    rintro e w1 ⟨rfl, hb1⟩
    have Hb1 := Lib.hid hb1
    have Ha1 := Lib.hid (Ha.out.keep (keep_of_below hb1))
    have Hr1 := Lib.hid (Hb.out.keep (keep_of_below hb1))
    clear hb1
    obtain ⟨ad, rfl, hca⟩ := Ha1.out p v Hv.out
    go_wp2
    go_region_with (first
      | (go_at_call 51; refine (gamesLeft_c _ _ _ _ _ ?_ Hrace.out.games).mono ?_; exact Hr1.out; rintro e w2 ⟨rfl, q2, rfl⟩)
      | (go_at_call 54; refine (proofOut_c _ _ _ _ _ _ _ _ _ ?_ ?_ Hrace.out.six (win_big Hrace.out) Hrace.out.games hp hb0 hb1').mono ?_; exact Ha1.out; exact Hr1.out; rintro e w3 ⟨rfl, hb3⟩))
    all_goals
      go_wp2_with fail
      go_ret
      exact ⟨ret_int (by rw [HS.out]), Hb1.out.trans (((below_drewN w1.heap.size w1 _).trans hb3).mono Hb1.out.size)⟩

def outB (wins : List Int) (left : List (List Int)) (k : Int) : Bool := decide (0 < proofF wins left k)

set_option maxHeartbeats 1000000 in
theorem iIsOut_c (A B : Option Addr) (c d : Nat) (wins : List Int) (left : List (List Int)) (k : Int) (w : World) (ha : Ints w A wins) (hb : Rows w B left) (hm : wins.length ≤ 1048576) (hm2 : left.length ≤ 1048576) (hcap : left.length ≤ d) :
    Calls Try.prog 34 #[.slice A wins.length c, .slice B left.length d, .int .i64 k] w (Gives w (.bool (outB wins left k))) := by
  generalize hR : outB wins left k = R
  have HR := Lib.hid hR
  clear hR
  have Ha := Lib.hid ha
  have Hb := Lib.hid hb
  clear ha hb
  go_enter Try.func34, Try.ntmps34
  go_wp2_with fail
  refine (iProofOut_c _ _ _ _ _ _ _ _ Ha.out Hb.out hm hm2 hcap).mono ?_
  rintro e w1 ⟨rfl, hb1⟩
  go_wp2
  go_ret
  exact ⟨ret_bool (by rw [← HR.out, outB]), hb1⟩

set_option maxHeartbeats 1000000 in
theorem sIsOut_c (A B : Option Addr) (c d : Nat) (wins : List Int) (left : List (List Int)) (k : Int) (w : World) (ha : Ints w A wins) (hb : Rows w B left) (hm : wins.length ≤ 1048576) (hm2 : left.length ≤ 1048576) (hcap : left.length ≤ d) :
    Calls Try.prog 33 #[.slice A wins.length c, .slice B left.length d, .int .i64 k] w (Gives w (.bool (outB wins left k))) := by
  generalize hR : outB wins left k = R
  have HR := Lib.hid hR
  clear hR
  have Ha := Lib.hid ha
  have Hb := Lib.hid hb
  clear ha hb
  cases h1 : racer wins left k
  · have H1 := Lib.hid h1
    clear h1
    go_enter Try.func33, Try.ntmps33
    go_wp2_with fail
    refine (gives_v (l14Ok_c _ _ _ _ _ _ _ _ Ha.out Hb.out hm hm2 hcap) (congrArg Value.bool H1.out)).mono ?_
    rintro e w1 ⟨rfl, hb1⟩
    go_wp2
    go_ret
    exact ⟨ret_bool (by rw [← HR.out]; simp [outB, proofF, H1.out]), hb1⟩
  · have hrace := racer_race h1
    obtain ⟨p, rfl, hp⟩ := racer_club h1
    obtain ⟨q, hq⟩ : ∃ q, proofAt wins left p (wins.getD p 0 + leftOf p 0 left) = q := ⟨_, rfl⟩
    have HS : Hid (decide (0 < q) = R) := Lib.hid (by rw [← HR.out, ← hq]; simp [outB, proofF, h1])
    have H1 := Lib.hid h1
    have Hrace := Lib.hid hrace
    have Hq := Lib.hid hq
    clear h1 hrace hq
    go_enter Try.func33, Try.ntmps33
    go_wp2_with fail
    refine (gives_v (l14Ok_c _ _ _ _ _ _ _ _ Ha.out Hb.out hm hm2 hcap) (congrArg Value.bool H1.out)).mono ?_
    rintro e w1 ⟨rfl, hb1⟩
    have Hb1 := Lib.hid hb1
    clear hb1
    go_wp2_with fail
    refine (calls_v (l14Proof_c _ _ _ _ _ _ _ _ (Ha.out.keep (keep_of_below Hb1.out)) (Hb.out.keep (keep_of_below Hb1.out)) Hrace.out.six (win_big Hrace.out) Hrace.out.games hp) (congrArg (fun x : Nat => Value.int .i64 x) Hq.out)).mono ?_
    rintro e w2 ⟨rfl, hq2⟩
    go_wp2
    go_ret
    exact ⟨ret_bool HS.out, bel_dr Hb1.out hq2⟩

def stillFrom (P : Nat → Bool) : Nat → Nat → Nat → Nat
  | 0, _, s => s
  | f + 1, k, s => stillFrom P f (k + 1) (if P k = true then s + 2 ^ k else s)
def isIn (wins : List Int) (left : List (List Int)) (k : Nat) : Bool := decide (proofAt wins left k (wins.getD k 0 + leftOf k 0 left) = 0)
def stillF (wins : List Int) (left : List (List Int)) : Nat := if raceOk wins left = true then stillFrom (isIn wins left) wins.length 0 0 else 0
theorem or_add {s k : Nat} (h : s < 2 ^ k) (hk : k ≤ 60) : bits .or .i64 (s : Int) ((2 ^ k : Nat) : Int) = ((s + 2 ^ k : Nat) : Int) := by
  have h1 : 2 ^ k ≤ 2 ^ 60 := Nat.pow_le_pow_right (by decide) hk
  rw [i64_or_nat s (2 ^ k) (by omega) (by omega), Nat.or_comm]
  have := Nat.two_pow_add_eq_or_of_lt h 1
  rw [Nat.mul_one] at this
  rw [← this, Nat.add_comm]
theorem race_of_racer {wins : List Int} {left : List (List Int)} (h : raceOk wins left = true) {k : Nat} (hk : k < wins.length) : racer wins left k = true := by
  simp only [racer, h, Bool.true_and, inR, Bool.and_eq_true, decide_eq_true_eq]
  omega
theorem outB_isIn {wins : List Int} {left : List (List Int)} (h : raceOk wins left = true) {k : Nat} (hk : k < wins.length) : outB wins left k = !isIn wins left k := by
  simp only [outB, proofF, race_of_racer h hk, if_true, isIn, Int.toNat_natCast]
  generalize proofAt wins left k (wins.getD k 0 + leftOf k 0 left) = q
  by_cases h : q = 0 <;> simp [h]
  omega

set_option maxHeartbeats 2000000 in
theorem iStillIn_c (A B : Option Addr) (c d : Nat) (wins : List Int) (left : List (List Int)) (w : World) (ha : Ints w A wins) (hb : Rows w B left) (hm : wins.length ≤ 1048576) (hm2 : left.length ≤ 1048576) (hcap : left.length ≤ d) :
    Calls Try.prog 36 #[.slice A wins.length c, .slice B left.length d] w (Gives w (.int .i64 (stillF wins left : Nat))) := by
  generalize hR : stillF wins left = R
  have HR := Lib.hid hR
  clear hR
  have Ha := Lib.hid ha
  have Hb := Lib.hid hb
  clear ha hb
  cases h1 : raceOk wins left
  · have H1 := Lib.hid h1
    clear h1
    go_enter Try.func36, Try.ntmps36
    go_wp2_with fail
    refine (gives_v (iRaceOk_c _ _ _ _ _ _ _ Ha.out Hb.out hm hm2 hcap) (congrArg Value.bool H1.out)).mono ?_
    rintro e w1 ⟨rfl, hb1⟩
    go_wp2
    go_ret
    exact ⟨ret_int (by rw [← HR.out]; simp [stillF, H1.out]), hb1⟩
  · have HS : Hid (stillFrom (isIn wins left) wins.length 0 0 = R) := Lib.hid (by rw [← HR.out]; simp [stillF, h1])
    have hsix := (race_of h1).six
    have H1 := Lib.hid h1
    clear h1
    go_enter Try.func36, Try.ntmps36
    go_wp2_with fail
    refine (gives_v (iRaceOk_c _ _ _ _ _ _ _ Ha.out Hb.out hm hm2 hcap) (congrArg Value.bool H1.out)).mono ?_
    rintro e w1 ⟨rfl, hb1⟩
    have Hb1 := Lib.hid hb1
    clear hb1
    go_wp2
    go_loopw [13, 5] (fun i m wr => ∃ (j s f : Nat), j + f = wins.length ∧ i = .int .i64 j ∧ m = .int .i64 s ∧ s < 2 ^ j ∧ stillFrom (isIn wins left) f j s = R ∧ Below w.heap.size w wr) (fun i _ _ => wins.length - (intOf i).toNat)
    case atStart => exact ⟨0, 0, wins.length, by omega, rfl, rfl, by decide, HS.out, Hb1.out⟩
    case round =>
      obtain ⟨j, s, f, hj, rfl, rfl, hs, hS, hd⟩ := hrel
      have HS := Lib.hid hS
      have Hd := Lib.hid hd
      have Hs := Lib.hid hs
      clear hS hd hs
      by_cases hlt : j < wins.length
      · obtain ⟨f, rfl⟩ : ∃ f', f = f' + 1 := ⟨f - 1, by omega⟩
        obtain ⟨M, hM⟩ : ∃ M, 2 ^ j = M := ⟨_, rfl⟩
        have hM64 : M ≤ 64 := by rw [← hM]; exact Nat.pow_le_pow_right (by decide) (by omega : j ≤ 6)
        have hsM : s < M := by rw [← hM]; exact Hs.out
        have e0 : wrap64 ((2 : Int) ^ j) = (M : Int) := pow_wrap hM (by omega)
        have e1 : bits .or .i64 (s : Int) (M : Int) = ((s + M : Nat) : Int) := by rw [← hM]; exact or_add Hs.out (by omega)
        have HM1 : Hid (2 ^ (j + 1) = 2 * M) := Lib.hid (by rw [Nat.pow_succ, hM]; omega)
        have HS1 : Hid (stillFrom (isIn wins left) f (j + 1) (if isIn wins left j = true then s + M else s) = R) := Lib.hid (by have := HS.out; rwa [stillFrom, hM] at this)
        have Hca := Lib.hid (iIsOut_c A B c d wins left j wr (Ha.out.keep (keep_of_below Hd.out)) (Hb.out.keep (keep_of_below Hd.out)) hm hm2 hcap)
        have HM := Lib.hid hM
        clear hM
        cases hin : isIn wins left j
        · have HB : Hid (outB wins left j = true) := Lib.hid (by rw [outB_isIn H1.out hlt, hin]; rfl)
          have HS2 : Hid (stillFrom (isIn wins left) f (j + 1) s = R) := Lib.hid (by have := HS1.out; rw [hin] at this; simpa using this)
          have Hin := Lib.hid hin
          clear hin
          go_wp2_with fail
          refine (gives_v Hca.out (congrArg Value.bool HB.out)).mono ?_
          rintro e w3 ⟨rfl, hb3⟩
          have Hb3 := Lib.hid hb3
          clear hb3
          go_wp2
          go_roundw
          case rel => exact ⟨j + 1, s, f, by omega, by go_num, rfl, by rw [HM1.out]; omega, HS2.out, Hd.out.trans (Hb3.out.mono Hd.out.size)⟩
          case measure => simp [intOf]; omega
        · have HB : Hid (outB wins left j = false) := Lib.hid (by rw [outB_isIn H1.out hlt, hin]; rfl)
          have HS2 : Hid (stillFrom (isIn wins left) f (j + 1) (s + M) = R) := Lib.hid (by have := HS1.out; rwa [hin, if_pos rfl] at this)
          have Hin := Lib.hid hin
          clear hin
          go_wp2_with fail
          refine (gives_v Hca.out (congrArg Value.bool HB.out)).mono ?_
          rintro e w3 ⟨rfl, hb3⟩
          have Hb3 := Lib.hid hb3
          clear hb3
          go_wp2
          go_roundw
          case rel => exact ⟨j + 1, s + M, f, by omega, by go_num, by go_num, by rw [HM1.out]; omega, HS2.out, Hd.out.trans (Hb3.out.mono Hd.out.size)⟩
          case measure => simp [intOf]; omega
      · obtain rfl : f = 0 := by omega
        have HS1 : Hid (s = R) := Lib.hid (by have := HS.out; rwa [stillFrom] at this)
        go_wp2
        go_ret
        exact ⟨ret_int (by rw [HS1.out]), Hd.out⟩

set_option maxHeartbeats 2000000 in
theorem sStillIn_c (A B : Option Addr) (c d : Nat) (wins : List Int) (left : List (List Int)) (w : World) (ha : Ints w A wins) (hb : Rows w B left) (hm : wins.length ≤ 1048576) (hm2 : left.length ≤ 1048576) (hcap : left.length ≤ d) :
    Calls Try.prog 35 #[.slice A wins.length c, .slice B left.length d] w (Quiet w (.int .i64 (stillF wins left : Nat))) := by
  generalize hR : stillF wins left = R
  have HR := Lib.hid hR
  clear hR
  have Ha := Lib.hid ha
  have Hb := Lib.hid hb
  clear ha hb
  cases h1 : raceOk wins left
  · have H1 := Lib.hid h1
    clear h1
    go_enter Try.func35, Try.ntmps35
    go_wp2_with fail
    refine (calls_v (sRaceOk_c _ _ _ _ _ _ _ Ha.out Hb.out hm hm2 hcap) (congrArg Value.bool H1.out)).mono ?_
    rintro e w1 ⟨rfl, hb1⟩
    go_wp2
    go_ret
    exact ⟨ret_int (by rw [← HR.out]; simp [stillF, H1.out]), hb1⟩
  · have HS : Hid (stillFrom (isIn wins left) wins.length 0 0 = R) := Lib.hid (by rw [← HR.out]; simp [stillF, h1])
    have hrace := race_of h1
    have hsix := hrace.six
    have H1 := Lib.hid h1
    have Hrace := Lib.hid hrace
    clear h1 hrace
    go_enter Try.func35, Try.ntmps35
    go_wp2_with fail
    refine (calls_v (sRaceOk_c _ _ _ _ _ _ _ Ha.out Hb.out hm hm2 hcap) (congrArg Value.bool H1.out)).mono ?_
    rintro e w1 ⟨rfl, hb1⟩
    have Hb1 := Lib.hid hb1
    clear hb1
    go_wp2
    go_loopw [13, 5] (fun i m wr => ∃ (j s f : Nat), j + f = wins.length ∧ i = .int .i64 j ∧ m = .int .i64 s ∧ s < 2 ^ j ∧ stillFrom (isIn wins left) f j s = R ∧ Dr w wr) (fun i _ _ => wins.length - (intOf i).toNat)
    case atStart => exact ⟨0, 0, wins.length, by omega, rfl, rfl, by decide, HS.out, Hb1.out⟩
    case round =>
      obtain ⟨j, s, f, hj, rfl, rfl, hs, hS, hd⟩ := hrel
      have HS := Lib.hid hS
      have Hd := Lib.hid hd
      have Hs := Lib.hid hs
      clear hS hd hs
      by_cases hlt : j < wins.length
      · obtain ⟨f, rfl⟩ : ∃ f', f = f' + 1 := ⟨f - 1, by omega⟩
        obtain ⟨M, hM⟩ : ∃ M, 2 ^ j = M := ⟨_, rfl⟩
        have hM64 : M ≤ 64 := by rw [← hM]; exact Nat.pow_le_pow_right (by decide) (by omega : j ≤ 6)
        have hsM : s < M := by rw [← hM]; exact Hs.out
        have e0 : wrap64 ((2 : Int) ^ j) = (M : Int) := pow_wrap hM (by omega)
        have e1 : IntKind.i64.wrap ((s : Int) + (M : Int)) = (s : Int) + (M : Int) := IntWalk.i64_in _ (by omega)
        have HM1 : Hid (2 ^ (j + 1) = 2 * M) := Lib.hid (by rw [Nat.pow_succ, hM]; omega)
        have HS1 : Hid (stillFrom (isIn wins left) f (j + 1) (if isIn wins left j = true then s + M else s) = R) := Lib.hid (by have := HS.out; rwa [stillFrom, hM] at this)
        obtain ⟨q, hq⟩ : ∃ q, proofAt wins left j (wins.getD j 0 + leftOf j 0 left) = q := ⟨_, rfl⟩
        have Hca := Lib.hid (calls_v (l14Proof_c A B c d wins left j wr (Ha.out.keep Hd.out.keep) (Hb.out.keep Hd.out.keep) hsix (win_big Hrace.out) Hrace.out.games hlt) (congrArg (fun x : Nat => Value.int .i64 x) hq))
        have hin : isIn wins left j = decide (q = 0) := by rw [← hq, isIn]
        have HM := Lib.hid hM
        have Hq := Lib.hid hq
        clear hM hq
        by_cases hq0 : q = 0
        · have e3 : ((q : Int) == 0) = true := by simp [hq0]
          have HS2 : Hid (stillFrom (isIn wins left) f (j + 1) (s + M) = R) := Lib.hid (by have := HS1.out; rw [hin] at this; simpa [hq0] using this)
          have Hin := Lib.hid hin
          have Hq0 := Lib.hid hq0
          clear hin hq0
          go_wp2_with fail
          refine (Hca.out).mono ?_
          rintro e w3 ⟨rfl, hb3⟩
          have Hb3 := Lib.hid hb3
          clear hb3
          go_wp2
          go_roundw
          case rel => exact ⟨j + 1, s + M, f, by omega, by go_num, by go_num, by rw [HM1.out]; omega, HS2.out, Hd.out.trans Hb3.out⟩
          case measure => simp [intOf]; omega
        · have e3 : ((q : Int) == 0) = false := by simp; omega
          have HS2 : Hid (stillFrom (isIn wins left) f (j + 1) s = R) := Lib.hid (by have := HS1.out; rw [hin] at this; simpa [hq0] using this)
          have Hin := Lib.hid hin
          have Hq0 := Lib.hid hq0
          clear hin hq0
          go_wp2_with fail
          refine (Hca.out).mono ?_
          rintro e w3 ⟨rfl, hb3⟩
          have Hb3 := Lib.hid hb3
          clear hb3
          go_wp2
          go_roundw
          case rel => exact ⟨j + 1, s, f, by omega, by go_num, rfl, by rw [HM1.out]; omega, HS2.out, Hd.out.trans Hb3.out⟩
          case measure => simp [intOf]; omega
      · obtain rfl : f = 0 := by omega
        have HS1 : Hid (s = R) := Lib.hid (by have := HS.out; rwa [stillFrom] at this)
        go_wp2
        go_ret
        exact ⟨ret_int (by rw [HS1.out]), Hd.out⟩
end Go.Proofs.Ytdgmmgaihgpccaa
