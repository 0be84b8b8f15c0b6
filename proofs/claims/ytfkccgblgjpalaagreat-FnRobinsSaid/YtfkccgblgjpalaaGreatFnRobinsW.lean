
/- The walk of the law on round robins (FnRobins): it returns true for every code. -/
import Derived.Test.YtfkccgblgjpalaaGreatRobP
import Derived.Test.YtfkccgblgjpalaaGreatCode
import Derived.Test.YtfkccgblgjpalaaGreatPast
namespace Go.Proofs.YtfkccgblgjpalaaGreat
open Go.ChangeShapes Go.WideShapes Go.ChangeAt Go.RowKit
set_option linter.unusedVariables false
set_option linter.unusedSimpArgs false

set_option maxHeartbeats 1000000 in
theorem same_c (A B : Option Addr) (c d : Nat) (xs : List Int) (w : World) (ha : Ints w A xs) (hb : Ints w B xs) (hm : xs.length ≤ 1048576) :
    Calls Tryz.prog 23 #[.slice A xs.length c, .slice B xs.length d] w (Quiet w (.bool true)) := by
  have Ha := Lib.hid ha
  have Hb := Lib.hid hb
  clear ha hb
  go_enter Tryz.func23, Tryz.ntmps23
  go_wp2
  go_loopw [14] (fun i wr => ∃ k : Nat, k ≤ xs.length ∧ i = .int .i64 k ∧ Dr w wr) (fun i _ => xs.length - (intOf i).toNat)
  case atStart => exact ⟨0, Nat.zero_le _, rfl, Dr.refl _⟩
  case round =>
    obtain ⟨k, hk, rfl, hd⟩ := hrel
    have Hd := Lib.hid hd
    clear hd
    by_cases hlt : k < xs.length
    · obtain ⟨v, hv⟩ := some_of hlt
      obtain ⟨a1, rfl, c1⟩ := Ha.out.keep Hd.out.keep k v hv
      obtain ⟨b1, rfl, c2⟩ := Hb.out.keep Hd.out.keep k v hv
      have Hv := Lib.hid hv
      clear hv
      go_wp2
      go_roundw
      case rel => exact ⟨k + 1, by omega, by go_num, Hd.out⟩
      case measure => simp [intOf]; omega
    · obtain rfl : k = xs.length := by omega
      go_wp2
      go_ret
      exact ⟨rfl, Hd.out⟩
def GivesR (w : World) (xss : List (List Int)) (M : Nat) (e : Ending) (w' : World) : Prop := ∃ A c, e = .returned (.slice A M c) ∧ Rows w' A xss ∧ Below w.heap.size w w'
theorem GivesII_len {w : World} {xss yss : List (List Int)} {M : Nat} {P : Program} {f : FuncId} {args : Array Value} (h : xss.length = M) (e : yss = xss) (k : Calls P f args w (GivesII 3 36 w yss)) : Calls P f args w (GivesR w xss M) := by
  subst e
  exact k.mono fun e w' ⟨A, c, he, ho, hb⟩ => ⟨A, c, by rw [← h]; exact he, ho.rows, hb⟩
def GivesL (w : World) (n : Nat) (e : Ending) (w' : World) : Prop := ∃ A c, e = .returned (.slice A n c) ∧ Below w.heap.size w w'
theorem GivesI_l {w : World} {xs : List Int} {n : Nat} {P : Program} {f : FuncId} {args : Array Value} (h : xs.length = n) (k : Calls P f args w (GivesI 3 w xs)) : Calls P f args w (GivesL w n) :=
  k.mono fun e w' ⟨A, c, he, ho, hb⟩ => ⟨A, c, by rw [← h]; exact he, hb⟩
def GivesP (w : World) (ss : List ByteArray) (n : Nat) (e : Ending) (w' : World) : Prop := ∃ A c, e = .returned (.slice A n c) ∧ Strs w' A ss ∧ n ≤ c ∧ Below w.heap.size w w'
theorem GivesS_l {w : World} {ss : List ByteArray} {n : Nat} {P : Program} {f : FuncId} {args : Array Value} (h : ss.length = n) (k : Calls P f args w (GivesS 9 w ss)) : Calls P f args w (GivesP w ss n) :=
  k.mono fun e w' ⟨A, c, he, ho, hb⟩ => ⟨A, c, by rw [← h]; exact he, ho.strs, by rw [← h]; simpa using ho.1, hb⟩

set_option maxRecDepth 100000 in
set_option maxHeartbeats 8000000 in
theorem fnRobins_walk (w : World) (A : Option Addr) (m c : Nat) (hb : Byt w A m) (hA : ∀ a, A = some a → 0 < m → a.block < w.heap.size) (hm : m ≤ maxLen) :
    Calls Tryz.prog 3 #[.slice A m c] w fun e w' => e = .returned (.bool true) ∧ Below w.heap.size w w' := by
  by_cases hbig : 1048576 < m
  · have hmi : (1048576 : Int) < (m : Int) := by omega
    clear hb hA hm hmi
    go_enter Tryz.func3, Tryz.ntmps3
    go_wp2
    go_ret
    exact ⟨rfl, Below.refl _ _⟩
  · have hmi : ¬ (1048576 : Int) < (m : Int) := by omega
    have hmn : ∀ (k : Nat) (w' : World), k ≤ 1000 → Below w.heap.size w w' → Calls Tryz.prog 5 #[.slice A m c, .int .i64 (k : Int)] w' (ANum w' 65535) := fun k w' hk h => makeNum_c A m c k w' (hb.keep (keep_of_below h)) (fun a e h0 => Nat.lt_of_lt_of_le (hA a e h0) h.size) (by omega) hk
    have hm0 := hmn 0 w (by decide) (Below.refl _ _)
    have Hmn := Lib.hid hmn
    have Hm0 := Lib.hid hm0
    clear hmn hm0
    clear hb hA hm hbig
    go_enter Tryz.func3, Tryz.ntmps3
    go_wp2_with fail
    refine (Hm0.out).mono ?_
    rintro e w1 ⟨x, rfl, hx0, hx1, hb1⟩
    obtain ⟨x, rfl⟩ := Int.eq_ofNat_of_zero_le hx0
    obtain ⟨q, hq⟩ : ∃ q, x % 5 = q := ⟨_, rfl⟩
    have hq5 : q < 5 := by rw [← hq]; exact Nat.mod_lt _ (by decide)
    have g1 : (x : Int).tmod 5 = (q : Int) := by rw [Int.tmod_eq_emod_of_nonneg (by omega), ← hq]; rfl
    have g2 : IntKind.i64.wrap (1 + (q : Int)) = 1 + (q : Int) := IntWalk.i64_in _ (by omega)
    obtain ⟨n, hn⟩ : ∃ n, 2 * (1 + q) = n := ⟨_, rfl⟩
    have g3 : IntKind.i64.wrap (2 * (1 + (q : Int))) = (n : Int) := by rw [IntWalk.i64_in _ (by omega)]; omega
    have R := rob_of hq5 hn
    have hn2 := R.two
    have hn10 := R.ten
    obtain ⟨M, hM⟩ : ∃ M, n - 1 = M := ⟨_, rfl⟩
    obtain ⟨T, hT⟩ : ∃ T, n - 2 = T := ⟨_, rfl⟩
    have g4 : IntKind.i64.wrap ((n : Int) - 1) = (M : Int) := by rw [IntWalk.i64_in _ (by omega)]; omega
    have g5 : IntKind.i64.wrap ((n : Int) - 2) = (T : Int) := by rw [IntWalk.i64_in _ (by omega)]; omega
    obtain ⟨P, hP⟩ : ∃ P, circleOf n = P := ⟨_, rfl⟩
    rw [hP] at R
    have hPl : P.length = M := by rw [R.len, hM]
    have hm20 : P.length ≤ 1048576 := by omega
    have hcc := iCirclePlan_c (n : Int) w1
    rw [hP, R.clubs] at hcc
    have Hb1 := Lib.hid hb1
    have HR := Lib.hid R
    have Hcc := Lib.hid hcc
    have HP := Lib.hid hP
    have HPl := Lib.hid hPl
    clear hcc hP hPl
    clear hx0 hx1 hb1 hq R
    go_wp2_with fail
    refine (Hcc.out).mono ?_
    rintro e w2 ⟨PA, pc, rfl, hor, hb2⟩
    have Hb2 := Lib.hid (Hb1.out.trans (hb2.mono Hb1.out.size))
    have HP2 := Lib.hid hor.rows
    clear hb2 hor
    rw [HPl.out]

    have hc3 := calls_v (sPlanOk_c (n : Int) PA pc P w2 HP2.out hm20) (congrArg Value.bool HR.out.ok)
    rw [HPl.out] at hc3
    have Hc3 := Lib.hid hc3
    clear hc3
    go_wp2_with fail
    refine (Hc3.out).mono ?_
    rintro e w3 ⟨rfl, hq3⟩
    have hb3 := hq3.below w2.heap.size
    clear hq3
    have Hb3 := Lib.hid (Hb2.out.trans (hb3.mono Hb2.out.size))
    have HP3 := Lib.hid (HP2.out.keep (keep_of_below hb3))
    clear hb3 HP2
    clear Hc3
    have hc4 := calls_v (iPlanOk_c (n : Int) PA pc P w3 HP3.out hm20) (congrArg Value.bool HR.out.ok)
    rw [HPl.out] at hc4
    have Hc4 := Lib.hid hc4
    clear hc4
    go_wp2_with fail
    refine (Hc4.out).mono ?_
    rintro e w4 ⟨rfl, hq4⟩
    have hb4 := hq4.below w3.heap.size
    clear hq4
    have Hb4 := Lib.hid (Hb3.out.trans (hb4.mono Hb3.out.size))
    have HP4 := Lib.hid (HP3.out.keep (keep_of_below hb4))
    clear hb4 HP3
    clear Hc4
    have hc5 := gives_v (iIsRoundRobin_c (n : Int) PA pc P 1 w4 HP4.out hm20) (congrArg Value.bool HR.out.rr)
    rw [HPl.out] at hc5
    have Hc5 := Lib.hid hc5
    clear hc5
    go_wp2_with fail
    refine (Hc5.out).mono ?_
    rintro e w5 ⟨rfl, hb5⟩
    have Hb5 := Lib.hid (Hb4.out.trans (hb5.mono Hb4.out.size))
    have HP5 := Lib.hid (HP4.out.keep (keep_of_below hb5))
    clear hb5 HP4
    clear Hc5
    have hc6 := gives_v (iCountBreaks_c (n : Int) PA pc P w5 HP5.out hm20) (congrArg (Value.int .i64) (HR.out.cb.trans (by omega : (n : Int) - 2 = (T : Int))))
    rw [HPl.out] at hc6
    have Hc6 := Lib.hid hc6
    clear hc6
    go_wp2_with fail
    refine (Hc6.out).mono ?_
    rintro e w6 ⟨rfl, hb6⟩
    have Hb6 := Lib.hid (Hb5.out.trans (hb6.mono Hb5.out.size))
    have HP6 := Lib.hid (HP5.out.keep (keep_of_below hb6))
    clear hb6 HP5
    clear Hc6
    have hc7 := GivesS_l HR.out.pl (iPatternsOf_c (n : Int) PA pc P w6 HP6.out hm20)
    rw [HPl.out] at hc7
    have Hc7 := Lib.hid hc7
    clear hc7
    go_wp2_with fail
    refine (Hc7.out).mono ?_
    rintro e w7 ⟨SA, sc, rfl, hss, hnc, hb7⟩
    have Hss := Lib.hid hss
    clear hss
    have Hb7 := Lib.hid (Hb6.out.trans (hb7.mono Hb6.out.size))
    have HP7 := Lib.hid (HP6.out.keep (keep_of_below hb7))
    clear hb7 HP6
    clear Hc7
    have hc8 := gives_v (ILackingSet_c SA sc (patsF n P) w7 Hss.out (by rw [HR.out.pl]; omega)) (congrArg (fun k : Nat => Value.int .i64 (k : Int)) HR.out.lack)
    rw [HR.out.pl] at hc8
    have Hc8 := Lib.hid hc8
    clear hc8
    go_wp2_with fail
    refine (Hc8.out).mono ?_
    rintro e w8 ⟨rfl, hb8⟩
    have Hb8 := Lib.hid (Hb7.out.trans (hb8.mono Hb7.out.size))
    have HP8 := Lib.hid (HP7.out.keep (keep_of_below hb8))
    clear hb8 HP7
    clear Hc8
    clear Hss hnc
    have hc9 := GivesS_l HR.out.pl (iPatternsOf_c (n : Int) PA pc P w8 HP8.out hm20)
    rw [HPl.out] at hc9
    have Hc9 := Lib.hid hc9
    clear hc9
    go_wp2_with fail
    refine (Hc9.out).mono ?_
    rintro e w9 ⟨SA, sc, rfl, hss, hnc, hb9⟩
    have Hss := Lib.hid hss
    clear hss
    have Hb9 := Lib.hid (Hb8.out.trans (hb9.mono Hb8.out.size))
    have HP9 := Lib.hid (HP8.out.keep (keep_of_below hb9))
    clear hb9 HP8
    clear Hc9
    have hc10 := gives_v (iIsEven_c SA sc (patsF n P) w9 Hss.out (by rw [HR.out.pl]; omega)) (congrArg Value.bool HR.out.even)
    rw [HR.out.pl] at hc10
    have Hc10 := Lib.hid hc10
    clear hc10
    go_wp2_with fail
    refine (Hc10.out).mono ?_
    rintro e w10 ⟨rfl, hb10⟩
    have Hb10 := Lib.hid (Hb9.out.trans (hb10.mono Hb9.out.size))
    have HP10 := Lib.hid (HP9.out.keep (keep_of_below hb10))
    clear hb10 HP9
    clear Hc10
    clear Hss hnc
    have hc11 := GivesS_l HR.out.pl (iPatternsOf_c (n : Int) PA pc P w10 HP10.out hm20)
    rw [HPl.out] at hc11
    have Hc11 := Lib.hid hc11
    clear hc11
    go_wp2_with fail
    refine (Hc11.out).mono ?_
    rintro e w11 ⟨SA, sc, rfl, hss, hnc, hb11⟩
    have Hss := Lib.hid hss
    clear hss
    have Hb11 := Lib.hid (Hb10.out.trans (hb11.mono Hb10.out.size))
    have HP11 := Lib.hid (HP10.out.keep (keep_of_below hb11))
    clear hb11 HP10
    clear Hc11
    have hc12 := gives_v (iAreDifferent_c SA sc (patsF n P) w11 Hss.out (by rw [HR.out.pl]; omega) (by rw [HR.out.pl]; exact hnc)) (congrArg Value.bool HR.out.diff)
    rw [HR.out.pl] at hc12
    have Hc12 := Lib.hid hc12
    clear hc12
    go_wp2_with fail
    refine (Hc12.out).mono ?_
    rintro e w12 ⟨rfl, hb12⟩
    have Hb12 := Lib.hid (Hb11.out.trans (hb12.mono Hb11.out.size))
    have HP12 := Lib.hid (HP11.out.keep (keep_of_below hb12))
    clear hb12 HP11
    clear Hc12
    clear Hss hnc
    obtain ⟨D, hD⟩ : ∃ D, doubleOf n P = D := ⟨_, rfl⟩
    obtain ⟨U, hU⟩ : ∃ U, turnOf n P = U := ⟨_, rfl⟩
    have hDl : D.length = 2 * M := by rw [← hD, HR.out.dl]; omega
    have hUl : U.length = M := by rw [← hU, HR.out.tl]; omega
    have hDr : rrOk n D 2 = true := by rw [← hD]; exact HR.out.rd
    have hUc : cntBreaks n U = (T : Int) := by rw [← hU, HR.out.ct]; omega
    have HD := Lib.hid hD
    have HU := Lib.hid hU
    have HDl := Lib.hid hDl
    have HUl := Lib.hid hUl
    have HDr := Lib.hid hDr
    have HUc := Lib.hid hUc
    clear hD hU hDl hUl hDr hUc
    have hc13 := GivesII_len HDl.out HD.out (iDoublePlan_c (n : Int) PA pc P w12 HP12.out hm20)
    rw [HPl.out] at hc13
    have Hc13 := Lib.hid hc13
    clear hc13
    go_wp2_with fail
    refine (Hc13.out).mono ?_
    rintro e w13 ⟨DA, dc, rfl, hrw, hb13⟩
    have HD13 := Lib.hid hrw
    clear hrw
    have Hb13 := Lib.hid (Hb12.out.trans (hb13.mono Hb12.out.size))
    have HP13 := Lib.hid (HP12.out.keep (keep_of_below hb13))
    clear hb13 HP12
    clear Hc13
    have hc14 := GivesII_len HUl.out HU.out (iTurnPlan_c (n : Int) PA pc P w13 HP13.out hm20)
    rw [HPl.out] at hc14
    have Hc14 := Lib.hid hc14
    clear hc14
    go_wp2_with fail
    refine (Hc14.out).mono ?_
    rintro e w14 ⟨UA, uc, rfl, hrw, hb14⟩
    have HU14 := Lib.hid hrw
    clear hrw
    have Hb14 := Lib.hid (Hb13.out.trans (hb14.mono Hb13.out.size))
    have HP14 := Lib.hid (HP13.out.keep (keep_of_below hb14))
    have HD14 := Lib.hid (HD13.out.keep (keep_of_below hb14))
    clear hb14 HP13 HD13
    clear Hc14
    have hMz : ¬ (M : Int) = 0 := by omega
    have hMz2 : ((M : Int) == 0) = false := by simp; omega
    have hc15 := Hmn.out 2 w14 (by decide) Hb14.out
    have Hc15 := Lib.hid hc15
    clear hc15
    go_wp2_with fail
    refine (Hc15.out).mono ?_
    rintro e w15 ⟨y, rfl, hy0, hy1, hb15⟩
    have Hb15 := Lib.hid (Hb14.out.trans (hb15.mono Hb14.out.size))
    have HP15 := Lib.hid (HP14.out.keep (keep_of_below hb15))
    have HD15 := Lib.hid (HD14.out.keep (keep_of_below hb15))
    have HU15 := Lib.hid (HU14.out.keep (keep_of_below hb15))
    clear hb15 HP14 HD14 HU14
    clear Hc15
    obtain ⟨y, rfl⟩ := Int.eq_ofNat_of_zero_le hy0
    obtain ⟨r, hr⟩ : ∃ r, y % M = r := ⟨_, rfl⟩
    have hrM : r < M := by rw [← hr]; exact Nat.mod_lt _ (by omega)
    have gr : (y : Int).tmod (M : Int) = (r : Int) := by rw [Int.tmod_eq_emod_of_nonneg (by omega), ← hr]; rfl
    clear hy0 hy1 hr
    have hc16 := Hmn.out 4 w15 (by decide) Hb15.out
    have Hc16 := Lib.hid hc16
    clear hc16
    go_wp2_with fail
    refine (Hc16.out).mono ?_
    rintro e w16 ⟨z, rfl, hz0, hz1, hb16⟩
    have Hb16 := Lib.hid (Hb15.out.trans (hb16.mono Hb15.out.size))
    have HP16 := Lib.hid (HP15.out.keep (keep_of_below hb16))
    have HD16 := Lib.hid (HD15.out.keep (keep_of_below hb16))
    have HU16 := Lib.hid (HU15.out.keep (keep_of_below hb16))
    clear hb16 HP15 HD15 HU15
    clear Hc16
    obtain ⟨z, rfl⟩ := Int.eq_ofNat_of_zero_le hz0
    obtain ⟨s, hs⟩ : ∃ s, z % M = s := ⟨_, rfl⟩
    have hsM : s < M := by rw [← hs]; exact Nat.mod_lt _ (by omega)
    have gs : (z : Int).tmod (M : Int) = (s : Int) := by rw [Int.tmod_eq_emod_of_nonneg (by omega), ← hs]; rfl
    clear hz0 hz1 hs
    obtain ⟨X, hX⟩ : ∃ X, swapOf n P r s = X := ⟨_, rfl⟩
    obtain ⟨hXr, hXl, hXP, hXc⟩ := HR.out.sw r s (by omega) (by omega)
    rw [hX] at hXr hXl hXP hXc
    rw [hM] at hXl
    obtain ⟨C, hC⟩ : ∃ C, cntBreaks n X = C := ⟨_, rfl⟩
    rw [hC] at hXc
    have hCT : ¬ C < (T : Int) := by omega
    have hXm : X.length ≤ 1048576 := by omega
    have HX := Lib.hid hX
    have HXr := Lib.hid hXr
    have HXl := Lib.hid hXl
    have HXP := Lib.hid hXP
    have HC := Lib.hid hC
    clear hX hXr hXl hXP hC
    have hc17 := GivesII_len HXl.out HX.out (iSwapRounds_c (n : Int) PA pc P (r : Int) (s : Int) w16 HP16.out hm20)
    rw [HPl.out] at hc17
    have Hc17 := Lib.hid hc17
    clear hc17
    go_wp2_with fail
    refine (Hc17.out).mono ?_
    rintro e w17 ⟨XA, xc, rfl, hrw, hb17⟩
    have HX17 := Lib.hid hrw
    clear hrw
    have Hb17 := Lib.hid (Hb16.out.trans (hb17.mono Hb16.out.size))
    have HP17 := Lib.hid (HP16.out.keep (keep_of_below hb17))
    have HD17 := Lib.hid (HD16.out.keep (keep_of_below hb17))
    have HU17 := Lib.hid (HU16.out.keep (keep_of_below hb17))
    clear hb17 HP16 HD16 HU16
    clear Hc17
    have hc18 := GivesII_len HPl.out HXP.out (iSwapRounds_c (n : Int) XA xc X (r : Int) (s : Int) w17 HX17.out hXm)
    rw [HXl.out] at hc18
    have Hc18 := Lib.hid hc18
    clear hc18
    go_wp2_with fail
    refine (Hc18.out).mono ?_
    rintro e w18 ⟨YA, yc, rfl, hrw, hb18⟩
    have HY18 := Lib.hid hrw
    clear hrw
    have Hb18 := Lib.hid (Hb17.out.trans (hb18.mono Hb17.out.size))
    have HP18 := Lib.hid (HP17.out.keep (keep_of_below hb18))
    have HD18 := Lib.hid (HD17.out.keep (keep_of_below hb18))
    have HU18 := Lib.hid (HU17.out.keep (keep_of_below hb18))
    have HX18 := Lib.hid (HX17.out.keep (keep_of_below hb18))
    clear hb18 HP17 HD17 HU17 HX17
    clear Hc18
    have hDm : D.length ≤ 1048576 := by have := HDl.out; omega
    have hUm : U.length ≤ 1048576 := by have := HUl.out; omega
    have hc19 := gives_v (iIsRoundRobin_c (n : Int) DA dc D 2 w18 HD18.out hDm) (congrArg Value.bool HDr.out)
    rw [HDl.out] at hc19
    have Hc19 := Lib.hid hc19
    clear hc19
    go_wp2_with fail
    refine (Hc19.out).mono ?_
    rintro e w19 ⟨rfl, hb19⟩
    have Hb19 := Lib.hid (Hb18.out.trans (hb19.mono Hb18.out.size))
    have HP19 := Lib.hid (HP18.out.keep (keep_of_below hb19))
    have HD19 := Lib.hid (HD18.out.keep (keep_of_below hb19))
    have HU19 := Lib.hid (HU18.out.keep (keep_of_below hb19))
    have HX19 := Lib.hid (HX18.out.keep (keep_of_below hb19))
    have HY19 := Lib.hid (HY18.out.keep (keep_of_below hb19))
    clear hb19 HP18 HD18 HU18 HX18 HY18
    clear Hc19
    have hc20 := gives_v (iIsRoundRobin_c (n : Int) XA xc X 1 w19 HX19.out hXm) (congrArg Value.bool HXr.out)
    rw [HXl.out] at hc20
    have Hc20 := Lib.hid hc20
    clear hc20
    go_wp2_with fail
    refine (Hc20.out).mono ?_
    rintro e w20 ⟨rfl, hb20⟩
    have Hb20 := Lib.hid (Hb19.out.trans (hb20.mono Hb19.out.size))
    have HP20 := Lib.hid (HP19.out.keep (keep_of_below hb20))
    have HD20 := Lib.hid (HD19.out.keep (keep_of_below hb20))
    have HU20 := Lib.hid (HU19.out.keep (keep_of_below hb20))
    have HX20 := Lib.hid (HX19.out.keep (keep_of_below hb20))
    have HY20 := Lib.hid (HY19.out.keep (keep_of_below hb20))
    clear hb20 HP19 HD19 HU19 HX19 HY19
    clear Hc20
    have hc21 := gives_v (iCountBreaks_c (n : Int) UA uc U w20 HU20.out hUm) (congrArg (Value.int .i64) HUc.out)
    rw [HUl.out] at hc21
    have Hc21 := Lib.hid hc21
    clear hc21
    go_wp2_with fail
    refine (Hc21.out).mono ?_
    rintro e w21 ⟨rfl, hb21⟩
    have Hb21 := Lib.hid (Hb20.out.trans (hb21.mono Hb20.out.size))
    have HP21 := Lib.hid (HP20.out.keep (keep_of_below hb21))
    have HD21 := Lib.hid (HD20.out.keep (keep_of_below hb21))
    have HU21 := Lib.hid (HU20.out.keep (keep_of_below hb21))
    have HX21 := Lib.hid (HX20.out.keep (keep_of_below hb21))
    have HY21 := Lib.hid (HY20.out.keep (keep_of_below hb21))
    clear hb21 HP20 HD20 HU20 HX20 HY20
    clear Hc21
    have hc22 := gives_v (iCountBreaks_c (n : Int) XA xc X w21 HX21.out hXm) (congrArg (Value.int .i64) HC.out)
    rw [HXl.out] at hc22
    have Hc22 := Lib.hid hc22
    clear hc22
    go_wp2_with fail
    refine (Hc22.out).mono ?_
    rintro e w22 ⟨rfl, hb22⟩
    have Hb22 := Lib.hid (Hb21.out.trans (hb22.mono Hb21.out.size))
    have HP22 := Lib.hid (HP21.out.keep (keep_of_below hb22))
    have HD22 := Lib.hid (HD21.out.keep (keep_of_below hb22))
    have HU22 := Lib.hid (HU21.out.keep (keep_of_below hb22))
    have HX22 := Lib.hid (HX21.out.keep (keep_of_below hb22))
    have HY22 := Lib.hid (HY21.out.keep (keep_of_below hb22))
    clear hb22 HP21 HD21 HU21 HX21 HY21
    clear Hc22
    have Hz := Lib.hid Hb22.out
    go_wp2
    go_loopw [12, 13] (fun t i wr => ∃ k : Nat, k ≤ n ∧ i = .int .i64 k ∧ t = .int .i64 (robT n P k : Nat) ∧ Below w22.heap.size w22 wr) (fun _ i _ => n - (intOf i).toNat)
    case atStart => exact ⟨0, Nat.zero_le _, rfl, rfl, Below.refl _ _⟩
    case round =>
      obtain ⟨k, hk, rfl, rfl, hr⟩ := hrel
      by_cases hlt : k < n
      · have hki : (k : Int) < (n : Int) := by omega
        obtain ⟨k1, k2, k3⟩ := HR.out.br k hlt
        have k4 := HR.out.tb k hk
        have k5 : robT n P (k + 1) = robT n P k + (breaksOf n P k).length := rfl
        obtain ⟨L, hL⟩ : ∃ L, (breaksOf n P k).length = L := ⟨_, rfl⟩
        rw [hL] at k1 k3 k5
        obtain ⟨t, ht⟩ : ∃ t, robT n P k = t := ⟨_, rfl⟩
        rw [ht] at k4 k5 ⊢
        obtain ⟨V, hV⟩ : ∃ V, venues n P k = V := ⟨_, rfl⟩
        rw [hV] at k1 k2
        rw [HU.out] at k2
        obtain ⟨O, hO⟩ : ∃ O, otherF V = O := ⟨_, rfl⟩
        rw [hO] at k2
        have e1 : IntKind.i64.wrap ((t : Int) + (L : Int)) = ((t + L : Nat) : Int) := by rw [IntWalk.i64_in _ (by omega)]; omega
        have hbc := fun (W : World) (h : Below w22.heap.size w22 W) => GivesI_l hL (iBreaksOf_c (n : Int) PA pc P (k : Int) W (HP22.out.keep (keep_of_below h)) hm20)
        have hvc := fun (W : World) (h : Below w22.heap.size w22 W) => gives_v (iVenuesOf_c (n : Int) PA pc P (k : Int) W (HP22.out.keep (keep_of_below h)) hm20) (congrArg Value.string hV)
        have hwc := fun (W : World) (h : Below w22.heap.size w22 W) => gives_v (iVenuesOf_c (n : Int) UA uc U (k : Int) W (HU22.out.keep (keep_of_below h)) hUm) (congrArg Value.string k2)
        have hcp := fun (W : World) => calls_v (ICountPatternBreaks_c V W) (congrArg (Value.int .i64) k1.symm)
        have hop := fun (W : World) => gives_v (iOtherPattern_c V W) (congrArg Value.string hO)
        simp only [HPl.out] at hbc hvc
        simp only [HUl.out] at hwc
        have Hbc := Lib.hid hbc
        have Hvc := Lib.hid hvc
        have Hwc := Lib.hid hwc
        have Hcp := Lib.hid hcp
        have Hop := Lib.hid hop
        have Hr := Lib.hid hr
        have HL := Lib.hid hL
        have Ht := Lib.hid ht
        have HV := Lib.hid hV
        have HO := Lib.hid hO
        have K5 := Lib.hid k5
        clear hbc hvc hwc hcp hop hr hL ht hV hO k5
        clear k1 k2
        go_wp2_with fail
        refine (Hbc.out _ Hr.out).mono ?_
        rintro e v1 ⟨BA, bc, rfl, hv1⟩
        have Hv1 := Lib.hid (Hr.out.trans (hv1.mono Hr.out.size))
        clear hv1
        go_wp2_with fail
        refine (Hvc.out _ Hv1.out).mono ?_
        rintro e v2 ⟨rfl, hv2⟩
        have Hv2 := Lib.hid (Hv1.out.trans (hv2.mono Hv1.out.size))
        clear hv2
        go_wp2_with fail
        refine (Hcp.out _).mono ?_
        rintro e v3 ⟨rfl, hq3⟩
        have Hv3 := Lib.hid (Hv2.out.trans (hq3.below _))
        clear hq3
        go_wp2_with fail
        refine (Hwc.out _ Hv3.out).mono ?_
        rintro e v4 ⟨rfl, hv4⟩
        have Hv4 := Lib.hid (Hv3.out.trans (hv4.mono Hv3.out.size))
        clear hv4
        go_wp2_with fail
        refine (Hop.out _).mono ?_
        rintro e v5 ⟨rfl, hv5⟩
        have Hv5 := Lib.hid (Hv4.out.trans (hv5.mono Hv4.out.size))
        clear hv5 Hr Hv1 Hv2 Hv3 Hv4 Hbc Hvc Hwc Hcp Hop
        go_wp2
        go_loopw [16] (fun i wr => ∃ j : Nat, j ≤ M ∧ i = .int .i64 j ∧ Below w22.heap.size w22 wr) (fun i _ => M - (intOf i).toNat)
        case atStart => exact ⟨0, Nat.zero_le _, rfl, Hv5.out⟩
        case round =>
          clear Hv5
          obtain ⟨j, hj, rfl, hr⟩ := hrel
          by_cases hlj : j < M
          · have hji : (j : Int) < (M : Int) := by omega
            obtain ⟨o, o1, o2, o3, o4, o5⟩ := HR.out.op k j hlt (by omega)
            rw [HU.out] at o5
            obtain ⟨xs, hxs⟩ := some_of (l := P) (k := j) (by rw [HPl.out]; exact hlj)
            have hxl := HR.out.row xs (List.mem_of_getElem? hxs)
            have hoc := fun (W : World) (h : Keep w22 W) => calls_v (iOpponentIn_c (n : Int) PA pc P (j : Int) (k : Int) W (HP22.out.keep h) hm20) (congrArg (Value.int .i64) o1)
            have hoo := fun (W : World) (h : Keep w22 W) => calls_v (iOpponentIn_c (n : Int) PA pc P (j : Int) (o : Int) W (HP22.out.keep h) hm20) (congrArg (Value.int .i64) o4)
            have hou := fun (W : World) (h : Keep w22 W) => calls_v (iOpponentIn_c (n : Int) UA uc U (j : Int) (k : Int) W (HU22.out.keep h) hUm) (congrArg (Value.int .i64) o5)
            simp only [HPl.out] at hoc hoo
            simp only [HUl.out] at hou
            have oi : (o : Int) < (n : Int) := by omega
            have oi2 : ¬ (n : Int) ≤ (o : Int) := by omega
            have oi4 : ¬ (o : Int) < 0 := by omega
            have od1 : decide ((o : Int) < 0) = false := by simp
            have od2 : decide ((n : Int) ≤ (o : Int)) = false := by simp; omega
            have od5 : decide (n ≤ o) = false := by simp; omega
            have od6 : (o == k) = false := by simp; omega
            have od3 : ((k : Int) != (k : Int)) = false := by simp
            have od4 : ((o : Int) != (o : Int)) = false := by simp
            have oi3 : ((o : Int) == (k : Int)) = false := by simp; omega
            have Hoc := Lib.hid hoc
            have Hoo := Lib.hid hoo
            have Hou := Lib.hid hou
            have Hr := Lib.hid hr
            have Hxs := Lib.hid hxs
            clear hoc hoo hou hr hxs
            clear o1 o4 o5
            go_wp2_with fail
            refine (Hoc.out _ (keep_of_below Hr.out)).mono ?_
            rintro e u1 ⟨rfl, hq1⟩
            have Hu1 := Lib.hid (Hr.out.trans (hq1.below _))
            clear hq1
            obtain ⟨pd, a1, c1, rfl, m1, _, d1, i1⟩ := HP22.out.keep (keep_of_below Hu1.out) j xs Hxs.out
            obtain ⟨yd, a2, c2, rfl, m2, _, d2, i2⟩ := HY22.out.keep (keep_of_below Hu1.out) j xs Hxs.out
            have q1 : ∀ y : Past u1, y.now.cell? (pd.add j) = some (.slice a1 xs.length c1) := Past.cell d1
            have q2 : ∀ y : Past u1, y.now.cell? (yd.add j) = some (.slice a2 xs.length c2) := Past.cell d2
            have hsm := fun (y : Past u1) => same_c a2 a1 c2 c1 xs y.now (i2.keep y.keep) (i1.keep y.keep) hxl
            have Hsm := Lib.hid hsm
            have I1 := Lib.hid i1
            have I2 := Lib.hid i2
            clear hsm i1 i2
            clear d1 d2 Hoc Hr
            go_wp2
            refine wp_region_past (by kernel_rfl) (by kernel_rfl) ?_
            repeat (go_big_quiet_step ((first | (go_at_call 22; first | with_reducible exact past_quiet (Hoo.out _ ((keep_of_below Hu1.out).trans (Past.keep _))) | with_reducible exact past_quiet (Hou.out _ ((keep_of_below Hu1.out).trans (Past.keep _)))) | (go_at_call 23; exact past_quiet (Hsm.out _)))))
            refine wpQuiet_nil ?_
            intro wx hwx
            obtain ⟨⟨wy, hbx⟩, hw⟩ := hwx
            change wx = wy at hw
            subst hw
            have Hu2 := Lib.hid (Hu1.out.trans (hbx.mono Hu1.out.size))
            clear hbx q1 q2 Hu1
            go_wp2
            go_roundw
            case rel => exact ⟨j + 1, by omega, by go_num, Hu2.out⟩
            case measure => simp [intOf]; omega
          · obtain rfl : j = M := by omega
            have Hr := Lib.hid hr
            clear hr
            go_wp2
            go_roundw
            case rel => exact ⟨k + 1, by omega, by go_num, by rw [K5.out]; go_num, Hr.out⟩
            case measure => simp [intOf]; omega
      · obtain rfl : k = n := by omega
        have hTn : robT k P k = T := by rw [HR.out.tot, hT]
        rw [hTn]
        have Hr := Lib.hid hr
        clear hr
        go_wp2
        go_ret
        exact ⟨rfl, Hz.out.trans (Hr.out.mono Hz.out.size)⟩
end Go.Proofs.YtfkccgblgjpalaaGreat
