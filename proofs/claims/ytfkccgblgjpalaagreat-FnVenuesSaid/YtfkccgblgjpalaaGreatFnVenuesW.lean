
/- The walk of the law on venues (FnVenues): it returns true for every code. -/
import Derived.Test.YtfkccgblgjpalaaGreatVenD
import Derived.Test.YtfkccgblgjpalaaGreatPlanM
import Derived.Test.YtfkccgblgjpalaaGreatCode
import Derived.Test.YtfkccgblgjpalaaGreatPast
import Derived.Deep.RegionHeld3
namespace Go.Proofs.YtfkccgblgjpalaaGreat
open Go.ChangeShapes Go.WideShapes Go.ChangeAt Go.RowKit
set_option linter.unusedVariables false
set_option linter.unusedSimpArgs false

set_option maxHeartbeats 1000000 in
theorem lhas_c (A : Option Addr) (c : Nat) (xs : List Int) (v : Int) (w : World) (ha : Ints w A xs) (hv : v ∈ xs) (hm : xs.length ≤ 1048576) :
    Calls Tryz.prog 28 #[.slice A xs.length c, .int .i64 v] w (Quiet w (.bool true)) := by
  have Ha := Lib.hid ha
  clear ha
  go_enter Tryz.func28, Tryz.ntmps28
  go_wp2
  go_loopw [9] (fun i wr => ∃ k : Nat, k ≤ xs.length ∧ i = .int .i64 k ∧ v ∈ xs.drop k ∧ Dr w wr) (fun i _ => xs.length - (intOf i).toNat)
  case atStart => exact ⟨0, Nat.zero_le _, rfl, hv, Dr.refl _⟩
  case round =>
    obtain ⟨k, hk, rfl, hin, hd⟩ := hrel
    have hlt : k < xs.length := by
      rcases Nat.lt_or_ge k xs.length with h | h
      · exact h
      · rw [List.drop_of_length_le h] at hin; simp at hin
    obtain ⟨u, hu⟩ := some_of hlt
    rw [drop_of hu] at hin
    obtain ⟨a1, rfl, c1⟩ := Ha.out.keep hd.keep k u hu
    by_cases e : u = v
    · have e1 : (u == v) = true := by simp [e]
      have Hd := Lib.hid hd
      have Hin := Lib.hid hin
      have Hu := Lib.hid hu
      have E := Lib.hid e
      clear hd hin hu e
      clear hv
      go_wp2
      go_ret
      exact ⟨rfl, Hd.out⟩
    · have e1 : (u == v) = false := by simpa using e
      have hin2 : v ∈ xs.drop (k + 1) := by
        rcases List.mem_cons.1 hin with h | h
        · exact absurd h.symm e
        · exact h
      have Hd := Lib.hid hd
      have Hin := Lib.hid hin
      have Hu := Lib.hid hu
      have E := Lib.hid e
      have Hin2 := Lib.hid hin2
      clear hd hin hu e hin2
      clear hv
      go_wp2
      go_roundw
      case rel => exact ⟨k + 1, by omega, by go_num, Hin2.out, Hd.out⟩
      case measure => simp [intOf]; omega

set_option maxHeartbeats 1000000 in
theorem lbits_c (f s : Nat) (w : World) (hs : s < 2 ^ f) (hf : f ≤ 60) :
    Calls Tryz.prog 30 #[.int .i64 s] w (Quiet w (.int .i64 ((bitsF f 0 s).length : Nat))) := by
  generalize hR : (bitsF f 0 s).length = R
  have HR := Lib.hid hR
  clear hR
  have hs60 : s < 9223372036854775808 := Nat.lt_of_lt_of_le hs (Nat.le_trans (Nat.pow_le_pow_right (by decide) hf) (by decide))
  go_enter Tryz.func30, Tryz.ntmps30
  go_wp2
  go_loopw [0, 3] (fun n k wr => ∃ (g a x : Nat), n = .int .i64 x ∧ k = .int .i64 a ∧ a + (bitsF g 0 x).length = R ∧ x < 2 ^ g ∧ a + g ≤ 60 ∧ x < 9223372036854775808 ∧ Dr w wr) (fun n _ _ => (intOf n).toNat)
  case atStart => exact ⟨f, 0, s, rfl, rfl, by simpa using HR.out, hs, by omega, hs60, Dr.refl _⟩
  case round =>
    obtain ⟨g, a, x, rfl, rfl, hS, hx, hag, hx60, hd⟩ := hrel
    have HS := Lib.hid hS
    have Hx := Lib.hid hx
    have Hd := Lib.hid hd
    clear hS hx hd
    by_cases h0 : 0 < x
    · have hg : ∃ g', g = g' + 1 := by
        cases g with
        | zero => have := Hx.out; simp at this; omega
        | succ g' => exact ⟨g', rfl⟩
      obtain ⟨g, rfl⟩ := hg
      have e2 : bits .and .i64 (x : Int) 1 = ((x % 2 : Nat) : Int) := and_one x hx60
      have hm : x % 2 < 2 := Nat.mod_lt _ (by decide)
      have hx1 : x / 2 < 2 ^ g := by have := Hx.out; rw [Nat.pow_succ] at this; omega
      have HS1 : Hid ((a + x % 2) + (bitsF g 0 (x / 2)).length = R) := Lib.hid (by
        have := HS.out
        rw [bitsF] at this
        rw [bitsF_len_eq g 0 (0 + 1)]
        by_cases h1 : x % 2 = 1
        · rw [if_pos h1, List.length_cons] at this; omega
        · rw [if_neg h1] at this; omega)
      have Hx1 := Lib.hid hx1
      clear hx1
      go_wp2
      go_roundw
      case rel => exact ⟨g, a + x % 2, x / 2, by go_num, by go_num, HS1.out, Hx1.out, by omega, by omega, Hd.out⟩
      case measure => simp [intOf]; omega
    · obtain rfl : x = 0 := by omega
      have HS1 : Hid (a = R) := Lib.hid (by have := HS.out; rwa [bitsF_zero] at this)
      go_wp2
      go_ret
      exact ⟨ret_int (by rw [HS1.out]), Hd.out⟩
def GivesP (w : World) (ss : List ByteArray) (n : Nat) (e : Ending) (w' : World) : Prop := ∃ A c, e = .returned (.slice A n c) ∧ Strs w' A ss ∧ n ≤ c ∧ Below w.heap.size w w'
theorem GivesS_l {w : World} {ss : List ByteArray} {n : Nat} {P : Program} {f : FuncId} {args : Array Value} (h : ss.length = n) (k : Calls P f args w (GivesS 9 w ss)) : Calls P f args w (GivesP w ss n) :=
  k.mono fun e w' ⟨A, c, he, ho, hb⟩ => ⟨A, c, by rw [← h]; exact he, ho.strs, by rw [← h]; simpa using ho.1, hb⟩
def GivesL (w : World) (n : Nat) (e : Ending) (w' : World) : Prop := ∃ A c, e = .returned (.slice A n c) ∧ Below w.heap.size w w'
theorem GivesI_l {w : World} {xs : List Int} {n : Nat} {P : Program} {f : FuncId} {args : Array Value} (h : xs.length = n) (k : Calls P f args w (GivesI 3 w xs)) : Calls P f args w (GivesL w n) :=
  k.mono fun e w' ⟨A, c, he, ho, hb⟩ => ⟨A, c, by rw [← h]; exact he, hb⟩
theorem strs_new2 (w : World) (a b : ByteArray) (T : TypeId) : Strs (w.alloc (.cells #[.string a, .string b] T)) (some ⟨w.heap.size, 0, none⟩) [a, b] := fun k u hu => by
  refine ⟨_, rfl, ?_⟩
  rw [addr_zero_add, cell_of_row _ _ k _ T (0, 0) (heap_alloc_new w _)]
  rcases k with _ | _ | k
  · simp at hu; subst hu; rfl
  · simp at hu; subst hu; rfl
  · simp at hu

set_option maxRecDepth 100000 in
set_option maxHeartbeats 8000000 in
theorem fnVenues_walk (w : World) (A : Option Addr) (m c : Nat) (hb : Byt w A m) (hA : ∀ a, A = some a → 0 < m → a.block < w.heap.size) (hm : m ≤ maxLen) :
    Calls Tryz.prog 4 #[.slice A m c] w fun e w' => e = .returned (.bool true) ∧ Below w.heap.size w w' := by
  by_cases hbig : 1048576 < m
  · have hmi : (1048576 : Int) < (m : Int) := by omega
    clear hb hA hm hmi
    go_enter Tryz.func4, Tryz.ntmps4
    go_wp2
    go_ret
    exact ⟨rfl, Below.refl _ _⟩
  · have hmi : ¬ (1048576 : Int) < (m : Int) := by omega
    have hmn : ∀ (k : Nat) (w' : World), k ≤ 1000 → Below w.heap.size w w' → Calls Tryz.prog 5 #[.slice A m c, .int .i64 (k : Int)] w' (ANum w' 65535) := fun k w' hk h => makeNum_c A m c k w' (hb.keep (keep_of_below h)) (fun a e h0 => Nat.lt_of_lt_of_le (hA a e h0) h.size) (by omega) hk
    have hmp : Calls Tryz.prog 24 #[.slice A m c, .int .i64 0] w (APlan w) := makePlan_c A m c 0 w hb hA (by omega) (by omega)
    have Hmn := Lib.hid hmn
    have Hmp := Lib.hid hmp
    clear hmn hmp
    clear hb hA hm hbig
    go_enter Tryz.func4, Tryz.ntmps4
    go_wp2_with fail
    refine (Hmp.out).mono ?_
    rintro e w1 ⟨n, PA, pc, P, rfl, hs, hp, hl, hr, hb1⟩
    have hn2 : 2 ≤ n := by rcases hs with h | h | h | h <;> omega
    have hn8 : n ≤ 8 := by rcases hs with h | h | h | h <;> omega
    obtain ⟨M, hM⟩ : ∃ M, P.length = M := ⟨_, rfl⟩
    have hm20 : P.length ≤ 1048576 := by omega
    rw [hM] at hl ⊢
    have hpl := pats_len hp
    have hsl : (patsF n P).length ≤ 1048576 := by omega
    have Hb1 := Lib.hid hb1
    have HP1 := Lib.hid hr
    have Hp := Lib.hid hp
    have Hpl := Lib.hid hpl
    have HM := Lib.hid hM
    clear hp hpl hM
    clear hs hb1 hr

    have hc2 := GivesS_l Hpl.out (iPatternsOf_c (n : Int) PA pc P w1 HP1.out hm20)
    rw [HM.out] at hc2
    have Hc2 := Lib.hid hc2
    clear hc2
    go_wp2_with fail
    refine (Hc2.out).mono ?_
    rintro e w2 ⟨SA, sc, rfl, hss, hnc, hb2⟩
    have HS2 := Lib.hid hss
    clear hss
    have Hb2 := Lib.hid (Hb1.out.trans (hb2.mono Hb1.out.size))
    have HP2 := Lib.hid (HP1.out.keep (keep_of_below hb2))
    clear hb2 HP1
    clear Hc2
    have hc3 := calls_v (iPlanOk_c (n : Int) PA pc P w2 HP2.out hm20) (congrArg Value.bool Hp.out)
    rw [HM.out] at hc3
    have Hc3 := Lib.hid hc3
    clear hc3
    go_wp2_with fail
    refine (Hc3.out).mono ?_
    rintro e w3 ⟨rfl, hq3⟩
    have hb3 := hq3.below w2.heap.size
    clear hq3
    have Hb3 := Lib.hid (Hb2.out.trans (hb3.mono Hb2.out.size))
    have HP3 := Lib.hid (HP2.out.keep (keep_of_below hb3))
    have HS3 := Lib.hid (HS2.out.keep (keep_of_below hb3))
    clear hb3 HP2 HS2
    clear Hc3
    have hc4 := gives_v (iPatternsOk_c SA sc (patsF n P) w3 HS3.out hsl) (congrArg Value.bool (pats_ok Hp.out))
    rw [Hpl.out] at hc4
    have Hc4 := Lib.hid hc4
    clear hc4
    go_wp2_with fail
    refine (Hc4.out).mono ?_
    rintro e w4 ⟨rfl, hb4⟩
    have Hb4 := Lib.hid (Hb3.out.trans (hb4.mono Hb3.out.size))
    have HP4 := Lib.hid (HP3.out.keep (keep_of_below hb4))
    have HS4 := Lib.hid (HS3.out.keep (keep_of_below hb4))
    clear hb4 HP3 HS3
    clear Hc4
    have hc5 := gives_v (iIsEven_c SA sc (patsF n P) w4 HS4.out hsl) (congrArg Value.bool (pats_even Hp.out))
    rw [Hpl.out] at hc5
    have Hc5 := Lib.hid hc5
    clear hc5
    go_wp2_with fail
    refine (Hc5.out).mono ?_
    rintro e w5 ⟨rfl, hb5⟩
    have Hb5 := Lib.hid (Hb4.out.trans (hb5.mono Hb4.out.size))
    have HP5 := Lib.hid (HP4.out.keep (keep_of_below hb5))
    have HS5 := Lib.hid (HS4.out.keep (keep_of_below hb5))
    clear hb5 HP4 HS4
    clear Hc5
    go_wp2
    go_loopw [6, 56] (fun t i wr => ∃ k : Nat, k ≤ n ∧ i = .int .i64 k ∧ t = .int .i64 (sumN (fun k => (brkOf P k).length) k : Nat) ∧ Below w5.heap.size w5 wr) (fun _ i _ => n - (intOf i).toNat)
    case atStart => exact ⟨0, Nat.zero_le _, rfl, rfl, Below.refl _ _⟩
    case round =>
      obtain ⟨k, hk, rfl, rfl, hr⟩ := hrel
      by_cases hlt : k < n
      · have hki : (k : Int) < (n : Int) := by omega
        have hpk := pats_at Hp.out hlt
        have v1 := ven_breaks Hp.out hlt
        have v2 := ven_patOk Hp.out hlt
        have v3 := ven_size Hp.out hlt
        obtain ⟨V, hV⟩ : ∃ V, venues n P k = V := ⟨_, rfl⟩
        rw [hV] at v1 v2 v3 hpk
        have v4 := other_other v2
        have v5 := breaks_other v2
        obtain ⟨O, hO⟩ : ∃ O, otherF V = O := ⟨_, rfl⟩
        rw [hO] at v4 v5
        have k4 := brk_small Hp.out k
        have k6 := brkOf_length P k
        have k5 : sumN (fun k => (brkOf P k).length) (k + 1) = sumN (fun k => (brkOf P k).length) k + (brkOf P k).length := rfl
        obtain ⟨L, hL⟩ : ∃ L, (brkOf P k).length = L := ⟨_, rfl⟩
        obtain ⟨t, ht⟩ : ∃ t, sumN (fun k => (brkOf P k).length) k = t := ⟨_, rfl⟩
        rw [hL] at v1 k5 k6
        rw [ht] at k4 k5 ⊢
        rw [HM.out] at k6 v3
        have e1 : IntKind.i64.wrap ((t : Int) + (L : Int)) = ((t + L : Nat) : Int) := by rw [IntWalk.i64_in _ (by omega)]; omega
        have hVs : (V.size : Int) = (M : Int) := by omega
        have hcp := fun (W : World) => calls_v (ICountPatternBreaks_c V W) (congrArg (Value.int .i64) v1)
        have hco := fun (W : World) => calls_v (ICountPatternBreaks_c O W) (congrArg (Value.int .i64) (v5.trans v1))
        have hpo := fun (W : World) => calls_v (iPatternOk_c V W) (congrArg Value.bool v2)
        have hot := fun (W : World) => gives_v (iOtherPattern_c V W) (congrArg Value.string hO)
        have hou := fun (W : World) => gives_v (iOtherPattern_c O W) (congrArg Value.string v4)
        obtain ⟨sa, rfl, hcs⟩ := HS5.out.keep (keep_of_below hr) k V hpk
        have Hr := Lib.hid hr
        have Hcp := Lib.hid hcp
        have Hco := Lib.hid hco
        have Hpo := Lib.hid hpo
        have Hot := Lib.hid hot
        have Hou := Lib.hid hou
        have HV := Lib.hid hV
        have HO := Lib.hid hO
        have HL := Lib.hid hL
        have Ht := Lib.hid ht
        have K5 := Lib.hid k5
        have Hpk := Lib.hid hpk
        clear hr hcp hco hpo hot hou hV hO hL ht k5 hpk
        clear v1 v2 v3 v4 v5
        go_wp2_with fail
        refine (Hcp.out _).mono ?_
        rintro e u1 ⟨rfl, hq1⟩
        have Hu1 := Lib.hid (Hr.out.trans (hq1.below _))
        clear hq1 hcs
        go_wp2_with fail
        refine (Hpo.out _).mono ?_
        rintro e u2 ⟨rfl, hq2⟩
        have Hu2 := Lib.hid (Hu1.out.trans (hq2.below _))
        clear hq2
        go_wp2_with fail
        refine (Hot.out _).mono ?_
        rintro e u3 ⟨rfl, hb3⟩
        have Hu3 := Lib.hid (Hu2.out.trans (hb3.mono Hu2.out.size))
        clear hb3
        go_wp2_with fail
        refine (Hou.out _).mono ?_
        rintro e u4 ⟨rfl, hb4⟩
        have Hu4 := Lib.hid (Hu3.out.trans (hb4.mono Hu3.out.size))
        clear hb4
        go_wp2_with fail
        refine (Hot.out _).mono ?_
        rintro e u5 ⟨rfl, hb5⟩
        have Hu5 := Lib.hid (Hu4.out.trans (hb5.mono Hu4.out.size))
        clear hb5
        go_wp2_with fail
        refine (Hco.out _).mono ?_
        rintro e u6 ⟨rfl, hq6⟩
        have Hu6 := Lib.hid (Hu5.out.trans (hq6.below _))
        clear hq6
        go_wp2_with fail
        refine (Hcp.out _).mono ?_
        rintro e u7 ⟨rfl, hq7⟩
        have Hu7 := Lib.hid (Hu6.out.trans (hq7.below _))
        clear hq7 Hu1 Hu2 Hu3 Hu4 Hu5 Hu6
        go_wp2
        go_roundw
        case rel => exact ⟨k + 1, by omega, by go_num, by rw [K5.out]; go_num, Hu7.out⟩
        case measure => simp [intOf]; omega
      · obtain rfl : k = n := by omega
        have Hz := Lib.hid (Hb5.out.trans (hr.mono Hb5.out.size))
        have HPz := Lib.hid (HP5.out.keep (keep_of_below hr))
        have HSz := Lib.hid (HS5.out.keep (keep_of_below hr))
        obtain ⟨N, hN⟩ : ∃ N, 2 ^ k = N := ⟨_, rfl⟩
        have hN64 : N ≤ 256 := by rw [← hN]; exact Nat.pow_le_pow_right (by decide) hn8
        have hN1 : 1 ≤ N := by rw [← hN]; exact Nat.one_le_two_pow
        have e0 : wrap64 ((2 : Int) ^ k) = (N : Int) := pow_wrap hN (by omega)
        have hNz : ((N : Int) == 0) = false := by simp; omega
        have hNz2 : ¬ (N : Int) = 0 := by omega
        have hNz3 : ¬ N = 0 := by omega
        have hNz4 : (N == 0) = false := by simp; omega
        have hNm : ¬ (N : Int) = -1 := by omega
        have e00 : IntKind.i64.wrap ((2 : Int) ^ k) = (N : Int) := by
          rw [show ((2 : Int) ^ k) = (N : Int) by rw [← hN, Int.natCast_pow]; rfl]
          exact IntWalk.i64_in _ (by omega)
        have hcb := cnt_sum Hp.out
        obtain ⟨BR, hBR⟩ : ∃ BR, sumN (fun k => (brkOf P k).length) k = BR := ⟨_, rfl⟩
        rw [hBR] at hcb ⊢
        have hkd : Below wr.heap.size wr wr.drew := ⟨rfl, rfl, rfl, Nat.le_refl _, fun _ _ => rfl⟩
        have Hr := Lib.hid hr
        have HN := Lib.hid hN
        have Hcb := Lib.hid hcb
        have HBR := Lib.hid hBR
        clear hr hN hcb hBR
        go_wp2
        (go_region_held3 (fun W' => Below wr.heap.size wr W')
          (first | assumption | exact hkd)
          (first
            | (go_at_call 5; refine (Hmn.out 40 _ (by decide) (Hz.out.trans (hkd.mono Hz.out.size))).mono ?_; rintro e v1 ⟨y, rfl, hy0, hy1, hbv⟩; (obtain ⟨y, rfl⟩ := Int.eq_ofNat_of_zero_le hy0); (obtain ⟨x, hx⟩ : ∃ x, y % N = x := ⟨_, rfl⟩); (have hxN : x < N := by rw [← hx]; exact Nat.mod_lt _ hN1); (have gS : (y : Int).tmod (N : Int) = (x : Int) := by rw [Int.tmod_eq_emod_of_nonneg (by omega), ← hx]; rfl); (have hbw : Below wr.heap.size wr v1 := hkd.trans (hbv.mono hkd.size)); clear hbv hx hy0 hy1)))
        have Hy := Lib.hid (Hz.out.trans (hbw.mono Hz.out.size))
        have HPy := Lib.hid (HPz.out.keep (keep_of_below hbw))
        have HSy := Lib.hid (HSz.out.keep (keep_of_below hbw))
        have hgm := games_most Hp.out x
        obtain ⟨B, hB⟩ : ∃ B, mostN (patsF k P) x = B := ⟨_, rfl⟩
        rw [hB] at hgm
        have hmf : mostF (patsF k P) (x : Int) = (B : Int) := by
          rw [mostF, pats_ok Hp.out, Hpl.out, HN.out, if_pos, Int.toNat_natCast, hB]
          simp only [inR, Bool.true_and, Bool.and_eq_true, decide_eq_true_eq]; omega
        have hmc := gives_v (IMostMeetings_c SA sc (patsF k P) (x : Int) v1 HSy.out hsl) (congrArg (Value.int .i64) hmf)
        rw [Hpl.out] at hmc
        have Hmc := Lib.hid hmc
        have Hmf := Lib.hid hmf
        have HB := Lib.hid hB
        have Hgm := Lib.hid hgm
        clear hmc hmf hB hgm
        clear hbw Hz HPz HSz
        go_wp2_with fail
        refine (Hmc.out).mono ?_
        rintro e v2 ⟨rfl, hb2⟩
        have Hx := Lib.hid (Hy.out.trans (hb2.mono Hy.out.size))
        have HPx := Lib.hid (HPy.out.keep (keep_of_below hb2))
        have HSx := Lib.hid (HSy.out.keep (keep_of_below hb2))
        clear hb2 Hy HPy HSy gS hkd
        go_wp2
        go_loopw [11, 100] (fun t i wr => ∃ r : Nat, r ≤ M ∧ i = .int .i64 r ∧ t = .int .i64 (sumN (gamesAt P k x) r : Nat) ∧ sumN (gamesAt P k x) r ≤ 16 * r ∧ Below v2.heap.size v2 wr) (fun _ i _ => M - (intOf i).toNat)
        case atStart => exact ⟨0, Nat.zero_le _, rfl, rfl, Nat.le_refl _, Below.refl _ _⟩
        case round =>
          obtain ⟨r, hr, rfl, rfl, h16, hbr⟩ := hrel
          by_cases hlr : r < M
          · have hri : (r : Int) < (M : Int) := by omega
            have hrP : r < P.length := by rw [HM.out]; exact hlr
            obtain ⟨G, hG⟩ : ∃ G, sumN (gamesAt P k x) r = G := ⟨_, rfl⟩
            rw [hG] at h16 ⊢
            have Hbr := Lib.hid hbr
            have HG := Lib.hid hG
            clear hbr hG
            go_wp2
            go_loopw [11, 13] (fun t i wr => ∃ a : Nat, a ≤ k ∧ i = .int .i64 a ∧ t = .int .i64 (G + sumN (fun k => one (inX x k && inX x (sg P r k) && decide (k < sg P r k))) a : Nat) ∧ sumN (fun k => one (inX x k && inX x (sg P r k) && decide (k < sg P r k))) a ≤ a ∧ Below v2.heap.size v2 wr) (fun _ i _ => k - (intOf i).toNat)
            case atStart => exact ⟨0, Nat.zero_le _, rfl, rfl, Nat.le_refl _, Hbr.out⟩
            case round =>
              clear Hbr
              obtain ⟨a, ha, rfl, rfl, hsa, hbr⟩ := hrel
              by_cases hla : a < k
              · have hai : (a : Int) < (k : Int) := by omega
                obtain ⟨⟨o1, _, o3, _⟩, o5⟩ := ven_cell Hp.out hrP hla
                have hmm := meet_mem Hp.out hrP hla
                have hst : sumN (fun k => one (inX x k && inX x (sg P r k) && decide (k < sg P r k))) (a + 1) = sumN (fun k => one (inX x k && inX x (sg P r k) && decide (k < sg P r k))) a + one (inX x a && inX x (sg P r a) && decide (a < sg P r a)) := rfl
                obtain ⟨g, hg⟩ : ∃ g, sumN (fun k => one (inX x k && inX x (sg P r k) && decide (k < sg P r k))) a = g := ⟨_, rfl⟩
                rw [hg] at hst hsa ⊢
                obtain ⟨o, ho⟩ : ∃ o, sg P r a = o := ⟨_, rfl⟩
                rw [ho] at o1 o3 o5 hmm hst
                have hoc := fun (W : World) (h : Below v2.heap.size v2 W) => calls_v (iOpponentIn_c (k : Int) PA pc P (r : Int) (a : Int) W (HPx.out.keep (keep_of_below h)) hm20) (congrArg (Value.int .i64) o5)
                have hcm := fun (W : World) (h : Below v2.heap.size v2 W) => ICanMeetAt_c SA sc (patsF k P) (a : Int) (o : Int) W (HSx.out.keep (keep_of_below h)) hsl
                have hml : (meetF (patsF k P) (a : Int) (o : Int)).length ≤ 1048576 := by
                  rw [meetF]
                  split
                  · refine Nat.le_trans (meetFrom_len _ _ _ _) ?_
                    rw [pats_head Hp.out]; exact hm20
                  · simp
                obtain ⟨Q, hQ⟩ : ∃ Q, meetF (patsF k P) (a : Int) (o : Int) = Q := ⟨_, rfl⟩
                simp only [HM.out] at hoc
                simp only [Hpl.out, hQ] at hcm
                rw [hQ] at hmm hml
                obtain ⟨u, hu⟩ : ∃ u, x / 2 ^ a = u := ⟨_, rfl⟩
                have hu256 : u < 256 := by rw [← hu]; exact Nat.lt_of_le_of_lt (Nat.div_le_self _ _) (by omega)
                have f1 : (x : Int) / 2 ^ a = (u : Int) := by rw [← hu]; exact shr_nat x a
                have f2 : bits .and .i64 (u : Int) 1 = ((u % 2 : Nat) : Int) := and_one u (by omega)
                obtain ⟨z, hz⟩ : ∃ z, x / 2 ^ o = z := ⟨_, rfl⟩
                have hz256 : z < 256 := by rw [← hz]; exact Nat.lt_of_le_of_lt (Nat.div_le_self _ _) (by omega)
                have f4 : (x : Int) / 2 ^ o = (z : Int) := by rw [← hz]; exact shr_nat x o
                have f5 : bits .and .i64 (z : Int) 1 = ((z % 2 : Nat) : Int) := and_one z (by omega)
                have i1 : inX x a = decide (u % 2 = 1) := by rw [inX, hu]
                have i2 : inX x o = decide (z % 2 = 1) := by rw [inX, hz]
                rw [i1, i2] at hst
                have hoi : (o : Int) < (k : Int) := by omega
                have hoi2 : ¬ (k : Int) ≤ (o : Int) := by omega
                have hoi3 : decide (k ≤ o) = false := by simp; omega
                have e9 : IntKind.i64.wrap (((G : Int) + (g : Int)) + 1) = (G : Int) + (g : Int) + 1 := IntWalk.i64_in _ (by omega)
                have Hbr := Lib.hid hbr
                have Hoc := Lib.hid hoc
                have Hcm := Lib.hid hcm
                have Hmm := Lib.hid hmm
                have HQ := Lib.hid hQ
                have Hu := Lib.hid hu
                have Hz := Lib.hid hz
                have Ho := Lib.hid ho
                have Hg := Lib.hid hg
                have I1 := Lib.hid i1
                have I2 := Lib.hid i2
                clear hbr hoc hcm hmm hQ hu hz ho hg i1 i2
                clear o5
                go_wp2_with fail
                refine (Hoc.out _ Hbr.out).mono ?_
                rintro e u1 ⟨rfl, hq1⟩
                have Hu1 := Lib.hid (Hbr.out.trans (hq1.below _))
                clear hq1 Hbr

                by_cases hao : a < o
                · have d1 : (a : Int) < (o : Int) := by omega
                  by_cases h2 : u % 2 = 1
                  · have f3 : ((u : Int) % 2 == 1) = true := by simp; omega
                    by_cases h3 : z % 2 = 1
                    · have f6 : ((z : Int) % 2 == 1) = true := by simp; omega
                      have hst2 : sumN (fun k => one (inX x k && inX x (sg P r k) && decide (k < sg P r k))) (a + 1) = g + 1 := by rw [hst, decide_eq_true h2, decide_eq_true h3, decide_eq_true hao]; rfl
                      have Hst := Lib.hid hst
                      have Hst2 := Lib.hid hst2
                      clear hst hst2
                      go_wp2_with fail
                      refine (Hcm.out _ Hu1.out).mono ?_
                      rintro e u2 ⟨QA, qc, rfl, hqo, hb2⟩
                      have Hu2 := Lib.hid (Hu1.out.trans (hb2.mono Hu1.out.size))
                      have hlc := lhas_c QA qc Q (r : Int) u2 hqo.ints Hmm.out hml
                      have Hlc := Lib.hid hlc
                      clear hlc
                      clear hb2 hqo Hu1
                      go_wp2_with fail
                      refine (Hlc.out).mono ?_
                      rintro e u3 ⟨rfl, hq3⟩
                      have Hu3 := Lib.hid (Hu2.out.trans (hq3.below _))
                      clear hq3 Hu2
                      go_wp2
                      go_roundw
                      case rel => exact ⟨a + 1, by omega, by go_num, by rw [Hst2.out]; go_num, by rw [Hst2.out]; omega, Hu3.out⟩
                      case measure => simp [intOf]; omega
                    · have f6 : ((z : Int) % 2 == 1) = false := by simp; omega
                      have hst2 : sumN (fun k => one (inX x k && inX x (sg P r k) && decide (k < sg P r k))) (a + 1) = g := by rw [hst, decide_eq_true h2, decide_eq_false h3, decide_eq_true hao]; rfl
                      have Hst := Lib.hid hst
                      have Hst2 := Lib.hid hst2
                      clear hst hst2
                      go_wp2_with fail
                      refine (Hcm.out _ Hu1.out).mono ?_
                      rintro e u2 ⟨QA, qc, rfl, hqo, hb2⟩
                      have Hu2 := Lib.hid (Hu1.out.trans (hb2.mono Hu1.out.size))
                      have hlc := lhas_c QA qc Q (r : Int) u2 hqo.ints Hmm.out hml
                      have Hlc := Lib.hid hlc
                      clear hlc
                      clear hb2 hqo Hu1
                      go_wp2_with fail
                      refine (Hlc.out).mono ?_
                      rintro e u3 ⟨rfl, hq3⟩
                      have Hu3 := Lib.hid (Hu2.out.trans (hq3.below _))
                      clear hq3 Hu2
                      go_wp2
                      go_roundw
                      case rel => exact ⟨a + 1, by omega, by go_num, by rw [Hst2.out]; go_num, by rw [Hst2.out]; omega, Hu3.out⟩
                      case measure => simp [intOf]; omega
                  · have f3 : ((u : Int) % 2 == 1) = false := by simp; omega
                    have hst2 : sumN (fun k => one (inX x k && inX x (sg P r k) && decide (k < sg P r k))) (a + 1) = g := by rw [hst, decide_eq_false h2, Bool.false_and, Bool.false_and]; rfl
                    have Hst := Lib.hid hst
                    have Hst2 := Lib.hid hst2
                    clear hst hst2
                    go_wp2_with fail
                    refine (Hcm.out _ Hu1.out).mono ?_
                    rintro e u2 ⟨QA, qc, rfl, hqo, hb2⟩
                    have Hu2 := Lib.hid (Hu1.out.trans (hb2.mono Hu1.out.size))
                    have hlc := lhas_c QA qc Q (r : Int) u2 hqo.ints Hmm.out hml
                    have Hlc := Lib.hid hlc
                    clear hlc
                    clear hb2 hqo Hu1
                    go_wp2_with fail
                    refine (Hlc.out).mono ?_
                    rintro e u3 ⟨rfl, hq3⟩
                    have Hu3 := Lib.hid (Hu2.out.trans (hq3.below _))
                    clear hq3 Hu2
                    go_wp2
                    go_roundw
                    case rel => exact ⟨a + 1, by omega, by go_num, by rw [Hst2.out]; go_num, by rw [Hst2.out]; omega, Hu3.out⟩
                    case measure => simp [intOf]; omega
                · have d1 : ¬ (a : Int) < (o : Int) := by omega
                  have hst2 : sumN (fun k => one (inX x k && inX x (sg P r k) && decide (k < sg P r k))) (a + 1) = g := by rw [hst, decide_eq_false hao, Bool.and_false]; rfl
                  have Hst := Lib.hid hst
                  have Hst2 := Lib.hid hst2
                  clear hst hst2
                  go_wp2_with fail
                  refine (Hcm.out _ Hu1.out).mono ?_
                  rintro e u2 ⟨QA, qc, rfl, hqo, hb2⟩
                  have Hu2 := Lib.hid (Hu1.out.trans (hb2.mono Hu1.out.size))
                  have hlc := lhas_c QA qc Q (r : Int) u2 hqo.ints Hmm.out hml
                  have Hlc := Lib.hid hlc
                  clear hlc
                  clear hb2 hqo Hu1
                  go_wp2_with fail
                  refine (Hlc.out).mono ?_
                  rintro e u3 ⟨rfl, hq3⟩
                  have Hu3 := Lib.hid (Hu2.out.trans (hq3.below _))
                  clear hq3 Hu2
                  go_wp2
                  go_roundw
                  case rel => exact ⟨a + 1, by omega, by go_num, by rw [Hst2.out]; go_num, by rw [Hst2.out]; omega, Hu3.out⟩
                  case measure => simp [intOf]; omega
              · obtain rfl : a = k := by omega
                have hgr : sumN (gamesAt P a x) (r + 1) = G + sumN (fun k => one (inX x k && inX x (sg P r k) && decide (k < sg P r k))) a := by rw [sumN, HG.out]; rfl
                obtain ⟨g, hg⟩ : ∃ g, sumN (fun k => one (inX x k && inX x (sg P r k) && decide (k < sg P r k))) a = g := ⟨_, rfl⟩
                rw [hg] at hgr hsa ⊢
                have Hbr := Lib.hid hbr
                have Hgr := Lib.hid hgr
                have Hg := Lib.hid hg
                clear hbr hgr hg
                go_wp2
                go_roundw
                case rel => exact ⟨r + 1, by omega, by go_num, by rw [Hgr.out], by rw [Hgr.out]; omega, Hbr.out⟩
                case measure => simp [intOf]; omega
          · obtain rfl : r = M := by omega
            have hgm2 := Hgm.out
            rw [HM.out] at hgm2
            obtain ⟨G, hG⟩ : ∃ G, sumN (gamesAt P k x) r = G := ⟨_, rfl⟩
            rw [hG] at hgm2 h16 ⊢
            have hBG : ¬ (B : Int) < (G : Int) := by omega
            have hBG2 : decide (B < G) = false := by simp; omega
            have Hf := Lib.hid (Hx.out.trans (hbr.mono Hx.out.size))
            have HPf := Lib.hid (HPx.out.keep (keep_of_below hbr))
            have HSf := Lib.hid (HSx.out.keep (keep_of_below hbr))
            have hbrn := fun h => rr_lack (n := k) (plan := P) h
            have hlky := fun h => lack_yes (n := k) (plan := P) Hp.out h
            obtain ⟨K, hK⟩ : ∃ K, lackF (patsF k P) = K := ⟨_, rfl⟩
            rw [hK] at hbrn hlky
            have hlc := gives_v (ILackingSet_c SA sc (patsF k P) wr HSf.out hsl) (congrArg (fun k : Nat => Value.int .i64 (k : Int)) hK)
            rw [Hpl.out] at hlc
            have Hlc := Lib.hid hlc
            have Hbr := Lib.hid hbr
            have HG := Lib.hid hG
            have HK := Lib.hid hK
            have Hgm2 := Lib.hid hgm2
            clear hlc hbr hG hK hgm2
            clear Hx HPx HSx
            go_wp2_with fail
            refine (Hlc.out).mono ?_
            rintro e y1 ⟨rfl, hb1⟩
            have Hf1 := Lib.hid (Hf.out.trans (hb1.mono Hf.out.size))
            have HPf1 := Lib.hid (HPf.out.keep (keep_of_below hb1))
            have HSf1 := Lib.hid (HSf.out.keep (keep_of_below hb1))
            have hcc := gives_v (iCountBreaks_c (k : Int) PA pc P y1 HPf1.out hm20) (congrArg (Value.int .i64) Hcb.out)
            rw [HM.out] at hcc
            have Hcc := Lib.hid hcc
            clear hcc
            clear hb1 Hf HPf HSf Hlc
            go_wp2_with fail
            refine (Hcc.out).mono ?_
            rintro e y2 ⟨rfl, hb2⟩
            have Hf2 := Lib.hid (Hf1.out.trans (hb2.mono Hf1.out.size))
            have HPf2 := Lib.hid (HPf1.out.keep (keep_of_below hb2))
            have HSf2 := Lib.hid (HSf1.out.keep (keep_of_below hb2))
            obtain ⟨rb, hrb⟩ : ∃ rb, rrOk (k : Int) P 1 = rb := ⟨_, rfl⟩
            have hrc := gives_v (iIsRoundRobin_c (k : Int) PA pc P 1 y2 HPf2.out hm20) (congrArg Value.bool hrb)
            rw [HM.out] at hrc
            have Hrc := Lib.hid hrc
            clear hrc
            clear hb2 Hf1 HPf1 HSf1 Hcc

            by_cases hK0 : K = 0
            · subst hK0
              have Hbrn := Lib.hid hbrn
              have Hlky := Lib.hid hlky
              clear hbrn hlky
              cases rb
              · clear hrb
                go_wp2_with fail
                refine (Hrc.out).mono ?_
                rintro e y3 ⟨rfl, hb3⟩
                have Hf3 := Lib.hid (Hf2.out.trans (hb3.mono Hf2.out.size))
                have HSf3 := Lib.hid (HSf2.out.keep (keep_of_below hb3))
                clear hb3 Hf2 HPf2 HSf2 Hrc
                go_wp2_with fail
                refine (Hmn.out 42 _ (by decide) Hf3.out).mono ?_
                rintro e z1 ⟨y1, rfl, hy0, hy1, hb4⟩
                obtain ⟨y1, rfl⟩ := Int.eq_ofNat_of_zero_le hy0
                obtain ⟨j, hj⟩ : ∃ j, y1 % 8 = j := ⟨_, rfl⟩
                have hj8 : j < 8 := by rw [← hj]; exact Nat.mod_lt _ (by decide)
                have q1 : (y1 : Int).tmod 8 = (j : Int) := by rw [Int.tmod_eq_emod_of_nonneg (by omega), ← hj]; rfl
                obtain ⟨H, hH⟩ : ∃ H, 2 + j = H := ⟨_, rfl⟩
                have q2 : IntKind.i64.wrap (2 + (j : Int)) = (H : Int) := by rw [IntWalk.i64_in _ (by omega)]; omega
                have Hf4 := Lib.hid (Hf3.out.trans (hb4.mono Hf3.out.size))
                clear hb4 hy0 hy1 hj
                go_wp2_with fail
                refine (Hmn.out 44 _ (by decide) Hf4.out).mono ?_
                rintro e z2 ⟨y2, rfl, hy0, hy1, hb5⟩
                obtain ⟨y2, rfl⟩ := Int.eq_ofNat_of_zero_le hy0
                obtain ⟨s, hs⟩ : ∃ s, y2 % H = s := ⟨_, rfl⟩
                have hsH : s < H := by rw [← hs]; exact Nat.mod_lt _ (by omega)
                have q3 : (y2 : Int).tmod (H : Int) = (s : Int) := by rw [Int.tmod_eq_emod_of_nonneg (by omega), ← hs]; rfl
                have q4 : ((H : Int) == 0) = false := by simp; omega
                have q5 : ¬ (H : Int) = 0 := by omega
                have Hf5 := Lib.hid (Hf4.out.trans (hb5.mono Hf4.out.size))
                clear hb5 hy0 hy1 hs
                have hpw := pwb_all j hj8 s (by omega)
                rw [hH] at hpw
                obtain ⟨p1, p2, p3, p4, p5, p6, p7, p8⟩ := hpw
                obtain ⟨a, ha⟩ : ∃ a, (patWB (H : Int) (s : Int) ⟨#[72]⟩).1 = a := ⟨_, rfl⟩
                obtain ⟨b, hb⟩ : ∃ b, (patWB (H : Int) (s : Int) ⟨#[65]⟩).1 = b := ⟨_, rfl⟩
                rw [ha] at p3 p4 p5 p6
                rw [ha, hb] at p7 p8
                rw [hb] at p6
                have hpa : patWB (H : Int) (s : Int) ⟨#[72]⟩ = (a, true) := by rw [← ha, ← p1]
                have hpb : patWB (H : Int) (s : Int) ⟨#[65]⟩ = (b, true) := by rw [← hb, ← p2]
                have hwa : ∀ W, Calls Tryz.prog 31 #[.int .i64 (H : Int), .int .i64 (s : Int), .string ⟨#[72]⟩] W (GivesSb W (a, true)) := fun W => by
                  have := iPwb_c (H : Int) (s : Int) ⟨#[72]⟩ W
                  rwa [hpa] at this
                have hwb : ∀ W, Calls Tryz.prog 31 #[.int .i64 (H : Int), .int .i64 (s : Int), .string ⟨#[65]⟩] W (GivesSb W (b, true)) := fun W => by
                  have := iPwb_c (H : Int) (s : Int) ⟨#[65]⟩ W
                  rwa [hpb] at this
                have p3i : (a.size : Int) = (H : Int) := by omega
                have ha0 : 0 < a.size := by omega
                have ha0i : (0 : Int) < (a.size : Int) := by omega
                have hbyte : (a[0]'ha0).toNat = 72 := by
                  have := bytes_at a 0 ha0
                  rw [this] at p4
                  injection p4 with p4
                  rw [p4]; rfl
                have hoa := fun W => gives_v (iOtherPattern_c a W) (congrArg Value.string p6)
                have hda := fun W => gives_v (iAreDifferent_c (some ⟨W.heap.size, 0, none⟩) 2 [a, b] (W.alloc (.cells #[.string a, .string b] 9)) (strs_new2 W a b 9) (by simp) (by simp)) (congrArg Value.bool p7)
                have hma := fun W => GivesI_l p8 (ICanMeetAt_c (some ⟨W.heap.size, 0, none⟩) 2 [a, b] 0 1 (W.alloc (.cells #[.string a, .string b] 9)) (strs_new2 W a b 9) (by simp))
                by_cases hs0 : s = 0
                · have p5b : patBreaks a = 0 := by rw [p5, if_pos hs0]
                  have s1 : ((s : Int) == 0) = true := by simp [hs0]
                  have hcp := fun W => calls_v (ICountPatternBreaks_c a W) (congrArg (Value.int .i64) p5b)
                  have Hwa := Lib.hid hwa
                  have Hwb := Lib.hid hwb
                  have Ha := Lib.hid ha
                  have Hb := Lib.hid hb
                  have Hoa := Lib.hid hoa
                  have Hda := Lib.hid hda
                  have Hma := Lib.hid hma
                  have Hcp := Lib.hid hcp
                  have Hs0 := Lib.hid hs0
                  clear hwa hwb ha hb hoa hda hma hcp hs0
                  clear p1 p2 p3 p4 p5 p6 p7 p8 p5b hpa hpb
                  go_wp2_with fail
                  refine (Hwa.out _).mono ?_
                  rintro e z3 ⟨rfl, hb6⟩
                  have Hf6 := Lib.hid (Hf5.out.trans (hb6.mono Hf5.out.size))
                  clear hb6
                  go_wp2_with fail
                  refine (Hwb.out _).mono ?_
                  rintro e z4 ⟨rfl, hb7⟩
                  have Hf7 := Lib.hid (Hf6.out.trans (hb7.mono Hf6.out.size))
                  clear hb7
                  go_wp2_with fail
                  refine (Hcp.out _).mono ?_
                  rintro e z5 ⟨rfl, hq8⟩
                  have Hf8 := Lib.hid (Hf7.out.trans (hq8.below _))
                  clear hq8
                  go_wp2_with fail
                  refine (Hoa.out _).mono ?_
                  rintro e z6 ⟨rfl, hb9⟩
                  have Hf9 := Lib.hid (Hf8.out.trans (hb9.mono Hf8.out.size))
                  clear hb9
                  go_wp2_with fail
                  refine (Hda.out _).mono ?_
                  rintro e z7 ⟨rfl, hb10⟩
                  have Hf10 := Lib.hid ((Hf9.out.alloc Hf9.out.size _).trans (hb10.mono (by have := Hf9.out.size; simp; omega)))
                  clear hb10
                  go_wp2_with fail
                  refine (Hma.out _).mono ?_
                  rintro e z8 ⟨XA, xc, rfl, hb11⟩
                  have Hf11 := Lib.hid ((Hf10.out.alloc Hf10.out.size _).trans (hb11.mono (by have := Hf10.out.size; simp; omega)))
                  clear hb11
                  go_wp2
                  go_ret
                  exact ⟨rfl, Hf11.out⟩
                · have p5b : patBreaks a = 1 := by rw [p5, if_neg hs0]
                  have s1 : ((s : Int) == 0) = false := by simpa using hs0
                  have hcp := fun W => calls_v (ICountPatternBreaks_c a W) (congrArg (Value.int .i64) p5b)
                  have Hwa := Lib.hid hwa
                  have Hwb := Lib.hid hwb
                  have Ha := Lib.hid ha
                  have Hb := Lib.hid hb
                  have Hoa := Lib.hid hoa
                  have Hda := Lib.hid hda
                  have Hma := Lib.hid hma
                  have Hcp := Lib.hid hcp
                  have Hs0 := Lib.hid hs0
                  clear hwa hwb ha hb hoa hda hma hcp hs0
                  clear p1 p2 p3 p4 p5 p6 p7 p8 p5b hpa hpb
                  go_wp2_with fail
                  refine (Hwa.out _).mono ?_
                  rintro e z3 ⟨rfl, hb6⟩
                  have Hf6 := Lib.hid (Hf5.out.trans (hb6.mono Hf5.out.size))
                  clear hb6
                  go_wp2_with fail
                  refine (Hwb.out _).mono ?_
                  rintro e z4 ⟨rfl, hb7⟩
                  have Hf7 := Lib.hid (Hf6.out.trans (hb7.mono Hf6.out.size))
                  clear hb7
                  go_wp2_with fail
                  refine (Hcp.out _).mono ?_
                  rintro e z5 ⟨rfl, hq8⟩
                  have Hf8 := Lib.hid (Hf7.out.trans (hq8.below _))
                  clear hq8
                  go_wp2_with fail
                  refine (Hoa.out _).mono ?_
                  rintro e z6 ⟨rfl, hb9⟩
                  have Hf9 := Lib.hid (Hf8.out.trans (hb9.mono Hf8.out.size))
                  clear hb9
                  go_wp2_with fail
                  refine (Hda.out _).mono ?_
                  rintro e z7 ⟨rfl, hb10⟩
                  have Hf10 := Lib.hid ((Hf9.out.alloc Hf9.out.size _).trans (hb10.mono (by have := Hf9.out.size; simp; omega)))
                  clear hb10
                  go_wp2_with fail
                  refine (Hma.out _).mono ?_
                  rintro e z8 ⟨XA, xc, rfl, hb11⟩
                  have Hf11 := Lib.hid ((Hf10.out.alloc Hf10.out.size _).trans (hb11.mono (by have := Hf10.out.size; simp; omega)))
                  clear hb11
                  go_wp2
                  go_ret
                  exact ⟨rfl, Hf11.out⟩
              · clear hrb
                go_wp2_with fail
                refine (Hrc.out).mono ?_
                rintro e y3 ⟨rfl, hb3⟩
                have Hf3 := Lib.hid (Hf2.out.trans (hb3.mono Hf2.out.size))
                have HSf3 := Lib.hid (HSf2.out.keep (keep_of_below hb3))
                clear hb3 Hf2 HPf2 HSf2 Hrc
                go_wp2_with fail
                refine (Hmn.out 42 _ (by decide) Hf3.out).mono ?_
                rintro e z1 ⟨y1, rfl, hy0, hy1, hb4⟩
                obtain ⟨y1, rfl⟩ := Int.eq_ofNat_of_zero_le hy0
                obtain ⟨j, hj⟩ : ∃ j, y1 % 8 = j := ⟨_, rfl⟩
                have hj8 : j < 8 := by rw [← hj]; exact Nat.mod_lt _ (by decide)
                have q1 : (y1 : Int).tmod 8 = (j : Int) := by rw [Int.tmod_eq_emod_of_nonneg (by omega), ← hj]; rfl
                obtain ⟨H, hH⟩ : ∃ H, 2 + j = H := ⟨_, rfl⟩
                have q2 : IntKind.i64.wrap (2 + (j : Int)) = (H : Int) := by rw [IntWalk.i64_in _ (by omega)]; omega
                have Hf4 := Lib.hid (Hf3.out.trans (hb4.mono Hf3.out.size))
                clear hb4 hy0 hy1 hj
                go_wp2_with fail
                refine (Hmn.out 44 _ (by decide) Hf4.out).mono ?_
                rintro e z2 ⟨y2, rfl, hy0, hy1, hb5⟩
                obtain ⟨y2, rfl⟩ := Int.eq_ofNat_of_zero_le hy0
                obtain ⟨s, hs⟩ : ∃ s, y2 % H = s := ⟨_, rfl⟩
                have hsH : s < H := by rw [← hs]; exact Nat.mod_lt _ (by omega)
                have q3 : (y2 : Int).tmod (H : Int) = (s : Int) := by rw [Int.tmod_eq_emod_of_nonneg (by omega), ← hs]; rfl
                have q4 : ((H : Int) == 0) = false := by simp; omega
                have q5 : ¬ (H : Int) = 0 := by omega
                have Hf5 := Lib.hid (Hf4.out.trans (hb5.mono Hf4.out.size))
                clear hb5 hy0 hy1 hs
                have hpw := pwb_all j hj8 s (by omega)
                rw [hH] at hpw
                obtain ⟨p1, p2, p3, p4, p5, p6, p7, p8⟩ := hpw
                obtain ⟨a, ha⟩ : ∃ a, (patWB (H : Int) (s : Int) ⟨#[72]⟩).1 = a := ⟨_, rfl⟩
                obtain ⟨b, hb⟩ : ∃ b, (patWB (H : Int) (s : Int) ⟨#[65]⟩).1 = b := ⟨_, rfl⟩
                rw [ha] at p3 p4 p5 p6
                rw [ha, hb] at p7 p8
                rw [hb] at p6
                have hpa : patWB (H : Int) (s : Int) ⟨#[72]⟩ = (a, true) := by rw [← ha, ← p1]
                have hpb : patWB (H : Int) (s : Int) ⟨#[65]⟩ = (b, true) := by rw [← hb, ← p2]
                have hwa : ∀ W, Calls Tryz.prog 31 #[.int .i64 (H : Int), .int .i64 (s : Int), .string ⟨#[72]⟩] W (GivesSb W (a, true)) := fun W => by
                  have := iPwb_c (H : Int) (s : Int) ⟨#[72]⟩ W
                  rwa [hpa] at this
                have hwb : ∀ W, Calls Tryz.prog 31 #[.int .i64 (H : Int), .int .i64 (s : Int), .string ⟨#[65]⟩] W (GivesSb W (b, true)) := fun W => by
                  have := iPwb_c (H : Int) (s : Int) ⟨#[65]⟩ W
                  rwa [hpb] at this
                have p3i : (a.size : Int) = (H : Int) := by omega
                have ha0 : 0 < a.size := by omega
                have ha0i : (0 : Int) < (a.size : Int) := by omega
                have hbyte : (a[0]'ha0).toNat = 72 := by
                  have := bytes_at a 0 ha0
                  rw [this] at p4
                  injection p4 with p4
                  rw [p4]; rfl
                have hoa := fun W => gives_v (iOtherPattern_c a W) (congrArg Value.string p6)
                have hda := fun W => gives_v (iAreDifferent_c (some ⟨W.heap.size, 0, none⟩) 2 [a, b] (W.alloc (.cells #[.string a, .string b] 9)) (strs_new2 W a b 9) (by simp) (by simp)) (congrArg Value.bool p7)
                have hma := fun W => GivesI_l p8 (ICanMeetAt_c (some ⟨W.heap.size, 0, none⟩) 2 [a, b] 0 1 (W.alloc (.cells #[.string a, .string b] 9)) (strs_new2 W a b 9) (by simp))
                by_cases hs0 : s = 0
                · have p5b : patBreaks a = 0 := by rw [p5, if_pos hs0]
                  have s1 : ((s : Int) == 0) = true := by simp [hs0]
                  have hcp := fun W => calls_v (ICountPatternBreaks_c a W) (congrArg (Value.int .i64) p5b)
                  have Hwa := Lib.hid hwa
                  have Hwb := Lib.hid hwb
                  have Ha := Lib.hid ha
                  have Hb := Lib.hid hb
                  have Hoa := Lib.hid hoa
                  have Hda := Lib.hid hda
                  have Hma := Lib.hid hma
                  have Hcp := Lib.hid hcp
                  have Hs0 := Lib.hid hs0
                  clear hwa hwb ha hb hoa hda hma hcp hs0
                  clear p1 p2 p3 p4 p5 p6 p7 p8 p5b hpa hpb
                  go_wp2_with fail
                  refine (Hwa.out _).mono ?_
                  rintro e z3 ⟨rfl, hb6⟩
                  have Hf6 := Lib.hid (Hf5.out.trans (hb6.mono Hf5.out.size))
                  clear hb6
                  go_wp2_with fail
                  refine (Hwb.out _).mono ?_
                  rintro e z4 ⟨rfl, hb7⟩
                  have Hf7 := Lib.hid (Hf6.out.trans (hb7.mono Hf6.out.size))
                  clear hb7
                  go_wp2_with fail
                  refine (Hcp.out _).mono ?_
                  rintro e z5 ⟨rfl, hq8⟩
                  have Hf8 := Lib.hid (Hf7.out.trans (hq8.below _))
                  clear hq8
                  go_wp2_with fail
                  refine (Hoa.out _).mono ?_
                  rintro e z6 ⟨rfl, hb9⟩
                  have Hf9 := Lib.hid (Hf8.out.trans (hb9.mono Hf8.out.size))
                  clear hb9
                  go_wp2_with fail
                  refine (Hda.out _).mono ?_
                  rintro e z7 ⟨rfl, hb10⟩
                  have Hf10 := Lib.hid ((Hf9.out.alloc Hf9.out.size _).trans (hb10.mono (by have := Hf9.out.size; simp; omega)))
                  clear hb10
                  go_wp2_with fail
                  refine (Hma.out _).mono ?_
                  rintro e z8 ⟨XA, xc, rfl, hb11⟩
                  have Hf11 := Lib.hid ((Hf10.out.alloc Hf10.out.size _).trans (hb11.mono (by have := Hf10.out.size; simp; omega)))
                  clear hb11
                  go_wp2
                  go_ret
                  exact ⟨rfl, Hf11.out⟩
                · have p5b : patBreaks a = 1 := by rw [p5, if_neg hs0]
                  have s1 : ((s : Int) == 0) = false := by simpa using hs0
                  have hcp := fun W => calls_v (ICountPatternBreaks_c a W) (congrArg (Value.int .i64) p5b)
                  have Hwa := Lib.hid hwa
                  have Hwb := Lib.hid hwb
                  have Ha := Lib.hid ha
                  have Hb := Lib.hid hb
                  have Hoa := Lib.hid hoa
                  have Hda := Lib.hid hda
                  have Hma := Lib.hid hma
                  have Hcp := Lib.hid hcp
                  have Hs0 := Lib.hid hs0
                  clear hwa hwb ha hb hoa hda hma hcp hs0
                  clear p1 p2 p3 p4 p5 p6 p7 p8 p5b hpa hpb
                  go_wp2_with fail
                  refine (Hwa.out _).mono ?_
                  rintro e z3 ⟨rfl, hb6⟩
                  have Hf6 := Lib.hid (Hf5.out.trans (hb6.mono Hf5.out.size))
                  clear hb6
                  go_wp2_with fail
                  refine (Hwb.out _).mono ?_
                  rintro e z4 ⟨rfl, hb7⟩
                  have Hf7 := Lib.hid (Hf6.out.trans (hb7.mono Hf6.out.size))
                  clear hb7
                  go_wp2_with fail
                  refine (Hcp.out _).mono ?_
                  rintro e z5 ⟨rfl, hq8⟩
                  have Hf8 := Lib.hid (Hf7.out.trans (hq8.below _))
                  clear hq8
                  go_wp2_with fail
                  refine (Hoa.out _).mono ?_
                  rintro e z6 ⟨rfl, hb9⟩
                  have Hf9 := Lib.hid (Hf8.out.trans (hb9.mono Hf8.out.size))
                  clear hb9
                  go_wp2_with fail
                  refine (Hda.out _).mono ?_
                  rintro e z7 ⟨rfl, hb10⟩
                  have Hf10 := Lib.hid ((Hf9.out.alloc Hf9.out.size _).trans (hb10.mono (by have := Hf9.out.size; simp; omega)))
                  clear hb10
                  go_wp2_with fail
                  refine (Hma.out _).mono ?_
                  rintro e z8 ⟨XA, xc, rfl, hb11⟩
                  have Hf11 := Lib.hid ((Hf10.out.alloc Hf10.out.size _).trans (hb11.mono (by have := Hf10.out.size; simp; omega)))
                  clear hb11
                  go_wp2
                  go_ret
                  exact ⟨rfl, Hf11.out⟩
            · have hrf : rb = false := by
                cases rb with
                | false => rfl
                | true => exact absurd (hbrn hrb) hK0
              subst hrf
              obtain ⟨l1, l2⟩ := hlky hK0
              have k1 : ((K : Int) != 0) = true := by simp; omega
              have k2 : ((K : Int) == 0) = false := by simp; omega
              rw [HN.out] at l1
              have hcd : card (patsF k P) K = (bitsF k 0 K).length := by rw [card, Hpl.out]
              obtain ⟨B2, hB2⟩ : ∃ B2, mostN (patsF k P) K = B2 := ⟨_, rfl⟩
              rw [hcd, hB2] at l2
              have hC8 := bitsF_len k 0 K
              have hlb := fun W => lbits_c k K W (by rw [HN.out]; exact l1) (by omega)
              obtain ⟨C, hC⟩ : ∃ C, (bitsF k 0 K).length = C := ⟨_, rfl⟩
              simp only [hC] at l2 hC8 hlb
              obtain ⟨D, hD⟩ : ∃ D, C * (C - 1) = D := ⟨_, rfl⟩
              rw [hD] at l2
              have hC1 : 1 ≤ C := by
                rcases Nat.eq_zero_or_pos C with h | h
                · subst h; simp at hD; omega
                · exact h
              have hD64 : D ≤ 64 := by rw [← hD]; exact Nat.mul_le_mul (by omega : C ≤ 8) (by omega : C - 1 ≤ 8)
              have r1 : IntKind.i64.wrap ((C : Int) - 1) = (C : Int) - 1 := IntWalk.i64_in _ (by omega)
              have r2 : (C : Int) * ((C : Int) - 1) = (D : Int) := by rw [← hD, Int.natCast_mul]; congr 1; omega
              have r3 : IntKind.i64.wrap ((C : Int) * ((C : Int) - 1)) = (D : Int) := by rw [r2]; exact IntWalk.i64_in _ (by omega)
              have r4 : (D : Int).tdiv 2 = ((D / 2 : Nat) : Int) := by rw [Int.tdiv_eq_ediv_of_nonneg (by omega)]; rfl
              have r5 : IntKind.i64.wrap (((D / 2 : Nat) : Int)) = ((D / 2 : Nat) : Int) := IntWalk.i64_in _ (by omega)
              obtain ⟨E, hE⟩ : ∃ E, D / 2 = E := ⟨_, rfl⟩
              rw [hE] at r4 r5 l2
              have r6 : ¬ (E : Int) ≤ (B2 : Int) := by omega
              have r7 : decide (E ≤ B2) = false := by simp; omega
              have hmf2 : mostF (patsF k P) (K : Int) = (B2 : Int) := by
                rw [mostF, pats_ok Hp.out, Hpl.out, HN.out, if_pos, Int.toNat_natCast, hB2]
                simp only [inR, Bool.true_and, Bool.and_eq_true, decide_eq_true_eq]; omega
              clear hbrn hlky hrb
              have Hlb := Lib.hid hlb
              have HC := Lib.hid hC
              have HD := Lib.hid hD
              have HE := Lib.hid hE
              have Hcd := Lib.hid hcd
              have HB2 := Lib.hid hB2
              clear hlb hC hD hE hcd hB2
              go_wp2_with fail
              refine (Hrc.out).mono ?_
              rintro e y3 ⟨rfl, hb3⟩
              have Hf3 := Lib.hid (Hf2.out.trans (hb3.mono Hf2.out.size))
              have HSf3 := Lib.hid (HSf2.out.keep (keep_of_below hb3))
              clear hb3 Hf2 HPf2 HSf2 Hrc
              have hmc2 := gives_v (IMostMeetings_c SA sc (patsF k P) (K : Int) y3 HSf3.out hsl) (congrArg (Value.int .i64) hmf2)
              rw [Hpl.out] at hmc2
              have Hmc2 := Lib.hid hmc2
              have Hmf2 := Lib.hid hmf2
              clear hmc2 hmf2
              go_wp2_with fail
              refine (Hmc2.out).mono ?_
              rintro e y4 ⟨rfl, hb4⟩
              have Hg1 := Lib.hid (Hf3.out.trans (hb4.mono Hf3.out.size))
              clear hb4 Hf3
              go_wp2_with fail
              refine (Hlb.out _).mono ?_
              rintro e y5 ⟨rfl, hq5⟩
              have Hg2 := Lib.hid (Hg1.out.trans (hq5.below _))
              clear hq5
              go_wp2_with fail
              refine (Hlb.out _).mono ?_
              rintro e y6 ⟨rfl, hq6⟩
              have Hf3 := Lib.hid (Hg2.out.trans (hq6.below _))
              clear hq6 Hg1 Hg2
              go_wp2_with fail
              refine (Hmn.out 42 _ (by decide) Hf3.out).mono ?_
              rintro e z1 ⟨y1, rfl, hy0, hy1, hb4⟩
              obtain ⟨y1, rfl⟩ := Int.eq_ofNat_of_zero_le hy0
              obtain ⟨j, hj⟩ : ∃ j, y1 % 8 = j := ⟨_, rfl⟩
              have hj8 : j < 8 := by rw [← hj]; exact Nat.mod_lt _ (by decide)
              have q1 : (y1 : Int).tmod 8 = (j : Int) := by rw [Int.tmod_eq_emod_of_nonneg (by omega), ← hj]; rfl
              obtain ⟨H, hH⟩ : ∃ H, 2 + j = H := ⟨_, rfl⟩
              have q2 : IntKind.i64.wrap (2 + (j : Int)) = (H : Int) := by rw [IntWalk.i64_in _ (by omega)]; omega
              have Hf4 := Lib.hid (Hf3.out.trans (hb4.mono Hf3.out.size))
              clear hb4 hy0 hy1 hj
              go_wp2_with fail
              refine (Hmn.out 44 _ (by decide) Hf4.out).mono ?_
              rintro e z2 ⟨y2, rfl, hy0, hy1, hb5⟩
              obtain ⟨y2, rfl⟩ := Int.eq_ofNat_of_zero_le hy0
              obtain ⟨s, hs⟩ : ∃ s, y2 % H = s := ⟨_, rfl⟩
              have hsH : s < H := by rw [← hs]; exact Nat.mod_lt _ (by omega)
              have q3 : (y2 : Int).tmod (H : Int) = (s : Int) := by rw [Int.tmod_eq_emod_of_nonneg (by omega), ← hs]; rfl
              have q4 : ((H : Int) == 0) = false := by simp; omega
              have q5 : ¬ (H : Int) = 0 := by omega
              have Hf5 := Lib.hid (Hf4.out.trans (hb5.mono Hf4.out.size))
              clear hb5 hy0 hy1 hs
              have hpw := pwb_all j hj8 s (by omega)
              rw [hH] at hpw
              obtain ⟨p1, p2, p3, p4, p5, p6, p7, p8⟩ := hpw
              obtain ⟨a, ha⟩ : ∃ a, (patWB (H : Int) (s : Int) ⟨#[72]⟩).1 = a := ⟨_, rfl⟩
              obtain ⟨b, hb⟩ : ∃ b, (patWB (H : Int) (s : Int) ⟨#[65]⟩).1 = b := ⟨_, rfl⟩
              rw [ha] at p3 p4 p5 p6
              rw [ha, hb] at p7 p8
              rw [hb] at p6
              have hpa : patWB (H : Int) (s : Int) ⟨#[72]⟩ = (a, true) := by rw [← ha, ← p1]
              have hpb : patWB (H : Int) (s : Int) ⟨#[65]⟩ = (b, true) := by rw [← hb, ← p2]
              have hwa : ∀ W, Calls Tryz.prog 31 #[.int .i64 (H : Int), .int .i64 (s : Int), .string ⟨#[72]⟩] W (GivesSb W (a, true)) := fun W => by
                have := iPwb_c (H : Int) (s : Int) ⟨#[72]⟩ W
                rwa [hpa] at this
              have hwb : ∀ W, Calls Tryz.prog 31 #[.int .i64 (H : Int), .int .i64 (s : Int), .string ⟨#[65]⟩] W (GivesSb W (b, true)) := fun W => by
                have := iPwb_c (H : Int) (s : Int) ⟨#[65]⟩ W
                rwa [hpb] at this
              have p3i : (a.size : Int) = (H : Int) := by omega
              have ha0 : 0 < a.size := by omega
              have ha0i : (0 : Int) < (a.size : Int) := by omega
              have hbyte : (a[0]'ha0).toNat = 72 := by
                have := bytes_at a 0 ha0
                rw [this] at p4
                injection p4 with p4
                rw [p4]; rfl
              have hoa := fun W => gives_v (iOtherPattern_c a W) (congrArg Value.string p6)
              have hda := fun W => gives_v (iAreDifferent_c (some ⟨W.heap.size, 0, none⟩) 2 [a, b] (W.alloc (.cells #[.string a, .string b] 9)) (strs_new2 W a b 9) (by simp) (by simp)) (congrArg Value.bool p7)
              have hma := fun W => GivesI_l p8 (ICanMeetAt_c (some ⟨W.heap.size, 0, none⟩) 2 [a, b] 0 1 (W.alloc (.cells #[.string a, .string b] 9)) (strs_new2 W a b 9) (by simp))
              by_cases hs0 : s = 0
              · have p5b : patBreaks a = 0 := by rw [p5, if_pos hs0]
                have s1 : ((s : Int) == 0) = true := by simp [hs0]
                have hcp := fun W => calls_v (ICountPatternBreaks_c a W) (congrArg (Value.int .i64) p5b)
                have Hwa := Lib.hid hwa
                have Hwb := Lib.hid hwb
                have Ha := Lib.hid ha
                have Hb := Lib.hid hb
                have Hoa := Lib.hid hoa
                have Hda := Lib.hid hda
                have Hma := Lib.hid hma
                have Hcp := Lib.hid hcp
                have Hs0 := Lib.hid hs0
                clear hwa hwb ha hb hoa hda hma hcp hs0
                clear p1 p2 p3 p4 p5 p6 p7 p8 p5b hpa hpb
                go_wp2_with fail
                refine (Hwa.out _).mono ?_
                rintro e z3 ⟨rfl, hb6⟩
                have Hf6 := Lib.hid (Hf5.out.trans (hb6.mono Hf5.out.size))
                clear hb6
                go_wp2_with fail
                refine (Hwb.out _).mono ?_
                rintro e z4 ⟨rfl, hb7⟩
                have Hf7 := Lib.hid (Hf6.out.trans (hb7.mono Hf6.out.size))
                clear hb7
                go_wp2_with fail
                refine (Hcp.out _).mono ?_
                rintro e z5 ⟨rfl, hq8⟩
                have Hf8 := Lib.hid (Hf7.out.trans (hq8.below _))
                clear hq8
                go_wp2_with fail
                refine (Hoa.out _).mono ?_
                rintro e z6 ⟨rfl, hb9⟩
                have Hf9 := Lib.hid (Hf8.out.trans (hb9.mono Hf8.out.size))
                clear hb9
                go_wp2_with fail
                refine (Hda.out _).mono ?_
                rintro e z7 ⟨rfl, hb10⟩
                have Hf10 := Lib.hid ((Hf9.out.alloc Hf9.out.size _).trans (hb10.mono (by have := Hf9.out.size; simp; omega)))
                clear hb10
                go_wp2_with fail
                refine (Hma.out _).mono ?_
                rintro e z8 ⟨XA, xc, rfl, hb11⟩
                have Hf11 := Lib.hid ((Hf10.out.alloc Hf10.out.size _).trans (hb11.mono (by have := Hf10.out.size; simp; omega)))
                clear hb11
                go_wp2
                go_ret
                exact ⟨rfl, Hf11.out⟩
              · have p5b : patBreaks a = 1 := by rw [p5, if_neg hs0]
                have s1 : ((s : Int) == 0) = false := by simpa using hs0
                have hcp := fun W => calls_v (ICountPatternBreaks_c a W) (congrArg (Value.int .i64) p5b)
                have Hwa := Lib.hid hwa
                have Hwb := Lib.hid hwb
                have Ha := Lib.hid ha
                have Hb := Lib.hid hb
                have Hoa := Lib.hid hoa
                have Hda := Lib.hid hda
                have Hma := Lib.hid hma
                have Hcp := Lib.hid hcp
                have Hs0 := Lib.hid hs0
                clear hwa hwb ha hb hoa hda hma hcp hs0
                clear p1 p2 p3 p4 p5 p6 p7 p8 p5b hpa hpb
                go_wp2_with fail
                refine (Hwa.out _).mono ?_
                rintro e z3 ⟨rfl, hb6⟩
                have Hf6 := Lib.hid (Hf5.out.trans (hb6.mono Hf5.out.size))
                clear hb6
                go_wp2_with fail
                refine (Hwb.out _).mono ?_
                rintro e z4 ⟨rfl, hb7⟩
                have Hf7 := Lib.hid (Hf6.out.trans (hb7.mono Hf6.out.size))
                clear hb7
                go_wp2_with fail
                refine (Hcp.out _).mono ?_
                rintro e z5 ⟨rfl, hq8⟩
                have Hf8 := Lib.hid (Hf7.out.trans (hq8.below _))
                clear hq8
                go_wp2_with fail
                refine (Hoa.out _).mono ?_
                rintro e z6 ⟨rfl, hb9⟩
                have Hf9 := Lib.hid (Hf8.out.trans (hb9.mono Hf8.out.size))
                clear hb9
                go_wp2_with fail
                refine (Hda.out _).mono ?_
                rintro e z7 ⟨rfl, hb10⟩
                have Hf10 := Lib.hid ((Hf9.out.alloc Hf9.out.size _).trans (hb10.mono (by have := Hf9.out.size; simp; omega)))
                clear hb10
                go_wp2_with fail
                refine (Hma.out _).mono ?_
                rintro e z8 ⟨XA, xc, rfl, hb11⟩
                have Hf11 := Lib.hid ((Hf10.out.alloc Hf10.out.size _).trans (hb11.mono (by have := Hf10.out.size; simp; omega)))
                clear hb11
                go_wp2
                go_ret
                exact ⟨rfl, Hf11.out⟩
end Go.Proofs.YtfkccgblgjpalaaGreat
