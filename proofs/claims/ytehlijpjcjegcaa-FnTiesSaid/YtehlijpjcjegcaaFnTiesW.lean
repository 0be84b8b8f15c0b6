/- The walk of the law on ties (FnTies): it returns true for every code. -/
import Derived.Test.YtehlijpjcjegcaaTiesH
import Derived.Test.YtehlijpjcjegcaaFairP
import Derived.Test.YtehlijpjcjegcaaHeadT
import Derived.Test.YtehlijpjcjegcaaLgL
namespace Go.Proofs.Ytehlijpjcjegcaa
open Go.ChangeShapes Go.WideShapes Go.ChangeAt Go.RowKit
set_option linter.unusedVariables false
set_option linter.unusedSimpArgs false

set_option maxRecDepth 100000 in
set_option maxHeartbeats 8000000 in
theorem fnTies_walk (w : World) (A : Option Addr) (m c : Nat) (hb : Byt w A m) (hA : ∀ a, A = some a → 0 < m → a.block < w.heap.size) (hm : m ≤ maxLen) :
    Calls Try.prog 10 #[.slice A m c] w fun e w' => e = .returned (.bool true) ∧ Below w.heap.size w w' := by
  by_cases hbig : 1048576 < m
  · have hmi : (1048576 : Int) < (m : Int) := by omega
    clear hb hA hm hmi
    go_enter Try.func10, Try.ntmps10
    go_wp2
    go_ret
    exact ⟨rfl, Below.refl _ _⟩
  · have hmi : ¬ (1048576 : Int) < (m : Int) := by omega
    have hmn : ∀ (k : Nat) (w' : World), k ≤ 1000 → Below w.heap.size w w' → Calls Try.prog 35 #[.slice A m c, .int .i64 (k : Int)] w' (ANum w' 65535) := fun k w' hk h => makeNum_c A m c k w' (hb.keep (keep_of_below h)) (fun a e h0 => Nat.lt_of_lt_of_le (hA a e h0) h.size) (by omega) hk
    have hml := makeLeague_c A m c 0 w hb hA (by omega) (by decide)
    have Hmn := Lib.hid hmn
    have Hml := Lib.hid hml
    clear hmn hml
    clear hb hA hm hbig
    go_enter Try.func10, Try.ntmps10
    go_wp2_with fail
    refine (Hml.out).mono ?_
    rintro e w1 ⟨n, d, B, rs, rfl, hgm, hok, hn2, hn6, hr11, hb1, _⟩
    obtain ⟨X, hX⟩ : ∃ X, w1.heap.size = X := ⟨_, rfl⟩
    have hba : Below w1.heap.size w1 (w1.alloc (.cells #[.int .i64 (n : Int), .slice B rs.length d] 29)) := (Below.refl _ _).alloc (Nat.le_refl _) _
    obtain ⟨x0, x1⟩ := box2 w1 (.int .i64 (n : Int)) (.slice B rs.length d) 29
    obtain ⟨w2, hw2⟩ : ∃ w2, w1.alloc (.cells #[.int .i64 (n : Int), .slice B rs.length d] 29) = w2 := ⟨_, rfl⟩
    have hz2 : w2.heap.size = X + 1 := by rw [← hw2, ← hX]; simp
    rw [hw2] at hba x0 x1
    rw [hX] at x0 x1
    have Hb2 := Lib.hid (hb1.trans (hba.mono hb1.size))
    have Hg2 := Lib.hid (hgm.keep (keep_of_below hba))
    have T := tie_of hok hr11
    have hpc := fun W (h : Games W B rs) => GivesI_l T.lp rfl (iPointsOf_c n B d rs W h hok)
    have hfc := fun W (h : Games W B rs) => GivesI_l ((nums_len _).trans T.lf) rfl (iFairTable_c (n : Int) B d rs W h (by omega))
    have hoc := fun W (h : Games W B rs) => GivesI_l T.lo rfl (iOpponentSums_c (n : Int) B d rs W h (by omega))
    have hwc := fun W (h : Games W B rs) => GivesI_l T.lw rfl (iWeightedSums_c (n : Int) B d rs W h (by omega))
    have hgc := fun W (h : Games W B rs) => GivesI_l T.lg rfl (iProgressOf_c (n : Int) B d rs W h (by omega))
    have hmc := fun W (h : Games W B rs) => GivesI_l T.lm rfl (iMedianSums_c (n : Int) B d rs W h (by omega))
    have hrc := fun (k : Nat) W (h : Games W B rs) (hk : k < n) => record_c n B d rs k W h hok hk
    have htc := fun (k : Nat) W (h : Games W B rs) => iTiedIn_c (n : Int) B d rs (k : Int) W h (by omega)
    have htv : ∀ k : Nat, k < n → tiedF (n : Int) rs (k : Int) = tiedOf (pointsF n rs) k := fun k hk => by
      rw [tiedF, if_pos ⟨hok, by simp [inR]; omega⟩, Int.toNat_natCast, Int.toNat_natCast]
    have hhc := fun (s : Nat) (l : Nat) W (h : Games W B rs) (hl : (nums (headF n rs (s : Int))).length = l) => GivesI_l hl rfl (iHeadTable_c (n : Int) B d rs (s : Int) W h (by omega))
    have hhi := fun (a : Nat) (ha : a < n) => head_in hok ha
    unfold lgv at hpc hfc hoc hwc hgc hmc hrc htc hhc
    unfold lgv
    obtain ⟨P, hP⟩ : ∃ P, pointsF n rs = P := ⟨_, rfl⟩
    obtain ⟨F, hF⟩ : ∃ F, fairF n rs = F := ⟨_, rfl⟩
    obtain ⟨O, hO⟩ : ∃ O, sumsF fOpp n rs = O := ⟨_, rfl⟩
    obtain ⟨V, hV⟩ : ∃ V, sumsF fWei n rs = V := ⟨_, rfl⟩
    obtain ⟨G, hG⟩ : ∃ G, progF n rs = G := ⟨_, rfl⟩
    obtain ⟨M, hM⟩ : ∃ M, medF n rs = M := ⟨_, rfl⟩
    obtain ⟨gm, hgam⟩ : ∃ gm : Nat → Int, (fun k => gam k rs) = gm := ⟨_, rfl⟩
    have hgk : ∀ k, gam k rs = gm k := fun k => by rw [← hgam]
    rw [hP, hF, hO, hV, hG, hM, hgam] at T
    simp only [hgk] at hrc
    simp only [hP] at hpc htv hhi
    simp only [hF] at hfc hhi
    simp only [hO] at hoc
    simp only [hV] at hwc
    simp only [hG] at hgc
    simp only [hM] at hmc
    obtain ⟨N, hN⟩ : ∃ N, rs.length = N := ⟨_, rfl⟩
    simp only [hN] at hpc hfc hoc hwc hgc hmc hrc htc hhc x1 hw2 ⊢
    have HT := Lib.hid T
    have Hw2 := Lib.hid hw2
    have Hpc := Lib.hid hpc
    have Hfc := Lib.hid hfc
    have Hoc := Lib.hid hoc
    have Hwc := Lib.hid hwc
    have Hgc := Lib.hid hgc
    have Hmc := Lib.hid hmc
    have Hrc := Lib.hid hrc
    have Htc := Lib.hid htc
    have Htv := Lib.hid htv
    have Hhc := Lib.hid hhc
    have Hhi := Lib.hid hhi
    clear hpc hfc hoc hwc hgc hmc hrc htc htv hhc hhi
    have hxz : X < w2.heap.size := by omega
    clear hok hgm hb1 hba hw2 T hgam hgk hP hF hO hV hG hM Hml hr11 hN

    go_wp2_with fail
    rw [Hw2.out]
    refine (Hpc.out _ Hg2.out).mono ?_
    rintro e w3 ⟨PA, pc, rfl, hi3, hb3⟩
    replace x0 := keep_of_below hb3 _ _ x0
    replace x1 := keep_of_below hb3 _ _ x1
    have Hb3 := Lib.hid (Hb2.out.trans (hb3.mono Hb2.out.size))
    have Hg3 := Lib.hid (Hg2.out.keep (keep_of_below hb3))
    have HP3 := Lib.hid hi3
    clear hi3 hb3 Hb2 Hg2 
    go_wp2_with fail
    refine (Hfc.out _ Hg3.out).mono ?_
    rintro e w4 ⟨FA, fc, rfl, hi4, hb4⟩
    replace x0 := keep_of_below hb4 _ _ x0
    replace x1 := keep_of_below hb4 _ _ x1
    have Hb4 := Lib.hid (Hb3.out.trans (hb4.mono Hb3.out.size))
    have Hg4 := Lib.hid (Hg3.out.keep (keep_of_below hb4))
    have HP4 := Lib.hid (HP3.out.keep (keep_of_below hb4))
    have HF4 := Lib.hid hi4
    clear hi4 hb4 Hb3 Hg3 HP3
    go_wp2_with fail
    refine (Hoc.out _ Hg4.out).mono ?_
    rintro e w5 ⟨OA, oc, rfl, hi5, hb5⟩
    replace x0 := keep_of_below hb5 _ _ x0
    replace x1 := keep_of_below hb5 _ _ x1
    have Hb5 := Lib.hid (Hb4.out.trans (hb5.mono Hb4.out.size))
    have Hg5 := Lib.hid (Hg4.out.keep (keep_of_below hb5))
    have HP5 := Lib.hid (HP4.out.keep (keep_of_below hb5))
    have HF5 := Lib.hid (HF4.out.keep (keep_of_below hb5))
    have HO5 := Lib.hid hi5
    clear hi5 hb5 Hb4 Hg4 HP4 HF4
    go_wp2_with fail
    refine (Hwc.out _ Hg5.out).mono ?_
    rintro e w6 ⟨VA, vc, rfl, hi6, hb6⟩
    replace x0 := keep_of_below hb6 _ _ x0
    replace x1 := keep_of_below hb6 _ _ x1
    have Hb6 := Lib.hid (Hb5.out.trans (hb6.mono Hb5.out.size))
    have Hg6 := Lib.hid (Hg5.out.keep (keep_of_below hb6))
    have HP6 := Lib.hid (HP5.out.keep (keep_of_below hb6))
    have HF6 := Lib.hid (HF5.out.keep (keep_of_below hb6))
    have HO6 := Lib.hid (HO5.out.keep (keep_of_below hb6))
    have HV6 := Lib.hid hi6
    clear hi6 hb6 Hb5 Hg5 HP5 HF5 HO5
    go_wp2_with fail
    refine (Hgc.out _ Hg6.out).mono ?_
    rintro e w7 ⟨GA, gc, rfl, hi7, hb7⟩
    replace x0 := keep_of_below hb7 _ _ x0
    replace x1 := keep_of_below hb7 _ _ x1
    have Hb7 := Lib.hid (Hb6.out.trans (hb7.mono Hb6.out.size))
    have Hg7 := Lib.hid (Hg6.out.keep (keep_of_below hb7))
    have HP7 := Lib.hid (HP6.out.keep (keep_of_below hb7))
    have HF7 := Lib.hid (HF6.out.keep (keep_of_below hb7))
    have HO7 := Lib.hid (HO6.out.keep (keep_of_below hb7))
    have HV7 := Lib.hid (HV6.out.keep (keep_of_below hb7))
    have HG7 := Lib.hid hi7
    clear hi7 hb7 Hb6 Hg6 HP6 HF6 HO6 HV6
    go_wp2_with fail
    refine (Hmc.out _ Hg7.out).mono ?_
    rintro e w8 ⟨MA, mc, rfl, hi8, hb8⟩
    replace x0 := keep_of_below hb8 _ _ x0
    replace x1 := keep_of_below hb8 _ _ x1
    have Hb8 := Lib.hid (Hb7.out.trans (hb8.mono Hb7.out.size))
    have Hg8 := Lib.hid (Hg7.out.keep (keep_of_below hb8))
    have HP8 := Lib.hid (HP7.out.keep (keep_of_below hb8))
    have HF8 := Lib.hid (HF7.out.keep (keep_of_below hb8))
    have HO8 := Lib.hid (HO7.out.keep (keep_of_below hb8))
    have HV8 := Lib.hid (HV7.out.keep (keep_of_below hb8))
    have HG8 := Lib.hid (HG7.out.keep (keep_of_below hb8))
    have HM8 := Lib.hid hi8
    clear hi8 hb8 Hb7 Hg7 HP7 HF7 HO7 HV7 HG7
    clear Hpc Hfc Hoc Hwc Hgc Hmc Hw2 hz2 hX hxz
    obtain ⟨pd, rfl⟩ := ints_some HP8.out (by rw [HT.out.lp]; omega)
    have hcP : ∀ (W : World) (k : Nat), Below w8.heap.size w8 W → k < n → W.cell? (pd.add k) = some (.int .i64 (P.getD k 0)) := fun W k hW hk => ints_at (HP8.out.keep (keep_of_below hW)) (at_getD (by rw [HT.out.lp]; exact hk))
    obtain ⟨od, rfl⟩ := ints_some HO8.out (by rw [HT.out.lo]; omega)
    have hcO : ∀ (W : World) (k : Nat), Below w8.heap.size w8 W → k < n → W.cell? (od.add k) = some (.int .i64 (O.getD k 0)) := fun W k hW hk => ints_at (HO8.out.keep (keep_of_below hW)) (at_getD (by rw [HT.out.lo]; exact hk))
    obtain ⟨vd, rfl⟩ := ints_some HV8.out (by rw [HT.out.lw]; omega)
    have hcV : ∀ (W : World) (k : Nat), Below w8.heap.size w8 W → k < n → W.cell? (vd.add k) = some (.int .i64 (V.getD k 0)) := fun W k hW hk => ints_at (HV8.out.keep (keep_of_below hW)) (at_getD (by rw [HT.out.lw]; exact hk))
    obtain ⟨gd, rfl⟩ := ints_some HG8.out (by rw [HT.out.lg]; omega)
    have hcG : ∀ (W : World) (k : Nat), Below w8.heap.size w8 W → k < n → W.cell? (gd.add k) = some (.int .i64 (G.getD k 0)) := fun W k hW hk => ints_at (HG8.out.keep (keep_of_below hW)) (at_getD (by rw [HT.out.lg]; exact hk))
    obtain ⟨md, rfl⟩ := ints_some HM8.out (by rw [HT.out.lm]; omega)
    have hcM : ∀ (W : World) (k : Nat), Below w8.heap.size w8 W → k < n → W.cell? (md.add k) = some (.int .i64 (M.getD k 0)) := fun W k hW hk => ints_at (HM8.out.keep (keep_of_below hW)) (at_getD (by rw [HT.out.lm]; exact hk))
    obtain ⟨fd, rfl⟩ := ints_some HF8.out (by rw [nums_len, HT.out.lf]; omega)
    have hcF : ∀ (W : World) (k a : Nat), Below w8.heap.size w8 W → F[k]? = some a → W.cell? (fd.add k) = some (.int .i64 (a : Int)) := fun W k a hW hk => ints_at (HF8.out.keep (keep_of_below hW)) (nums_at hk)
    have hgW : ∀ (W : World), Below w8.heap.size w8 W → Games W B rs := fun W hW => Hg8.out.keep (keep_of_below hW)
    have HcP := Lib.hid hcP
    have HcO := Lib.hid hcO
    have HcV := Lib.hid hcV
    have HcG := Lib.hid hcG
    have HcM := Lib.hid hcM
    have HcF := Lib.hid hcF
    have HgW := Lib.hid hgW
    clear hcP hcO hcV hcG hcM hcF hgW
    have X0 := Lib.hid x0
    have X1 := Lib.hid x1
    clear HP8 HV8 HG8 HM8 HF8 Hg8
    go_wp2
    go_loopw [11, 12, 84] (fun sv tv iv wr => ∃ i : Nat, i ≤ n ∧ iv = .int .i64 (i : Int) ∧ sv = .int .i64 (seenN (F.take i) : Nat) ∧ tv = .int .i64 (totN P gm (F.take i)) ∧ Below w8.heap.size w8 wr) (fun _ _ iv _ => n - (intOf iv).toNat)
    case atStart => exact ⟨0, Nat.zero_le _, rfl, rfl, rfl, Below.refl _ _⟩
    case round =>
      obtain ⟨i, hi, rfl, rfl, rfl, hr⟩ := hrel
      by_cases hlt : i < n
      · have hii : (i : Int) < (n : Int) := by omega
        obtain ⟨a, ha⟩ := some_of (l := F) (k := i) (by rw [HT.out.lf]; exact hlt)
        have han := HT.out.fn a (List.mem_of_getElem? ha)
        obtain ⟨hs64, hsz, hsn⟩ := seen_step HT.out.fnd (fun a h => by have := HT.out.fn a h; omega) ha
        have htn := tot_step (P := P) (gm := gm) ha
        obtain ⟨ht0, ht1⟩ := tot_bd HT.out.pb HT.out.gb (F.take i)
        have ht11 : totN P gm (F.take i) ≤ 11880 := Int.le_trans ht1 (Int.mul_le_mul_of_nonneg_left (take_six HT.out.lf hn6 i) (by decide))
        clear ht1
        obtain ⟨S, hS⟩ : ∃ S, seenN (F.take i) = S := ⟨_, rfl⟩
        obtain ⟨t, ht⟩ : ∃ t, totN P gm (F.take i) = t := ⟨_, rfl⟩
        rw [hS] at hs64 hsz hsn ⊢
        rw [ht] at htn ht0 ht11 ⊢
        obtain ⟨u, hu⟩ : ∃ u, S / 2 ^ a = u := ⟨_, rfl⟩
        rw [hu] at hsz
        obtain ⟨hu64, f1, f2⟩ := small_bit hs64 hu
        have f3 := odd_no hsz
        obtain ⟨Q, hQ⟩ : ∃ Q, 2 ^ a = Q := ⟨_, rfl⟩
        obtain ⟨hQ64, e0, e0'⟩ := small_pow han hn6 hQ
        have e1 := small_add hs64 hQ64
        obtain ⟨a0, a1, a2, a3, hani⟩ := not_lt_int han
        rw [hQ] at hsn
        have cf := HcF.out wr i a hr ha
        have cp := HcP.out wr a hr han
        obtain ⟨p0, p1⟩ := HT.out.pb a
        obtain ⟨s0, s1⟩ := HT.out.gb a
        obtain ⟨o0, o1⟩ := HT.out.ob a
        obtain ⟨v0, v1⟩ := HT.out.wei a
        obtain ⟨m0, m1, m2⟩ := HT.out.med a han
        obtain ⟨g0, g1⟩ := HT.out.pro a
        have co := fun W h => HcO.out W a h han
        have cv := fun W h => HcV.out W a h han
        have cg := fun W h => HcG.out W a h han
        have cm := fun W h => HcM.out W a h han
        have hcp := fun W h => HcP.out W a h han
        have hfs := fun (j b : Nat) (hj : j + 1 = i) (hb : F[j]? = some b) => HT.out.fs j a b hb (by rw [hj]; exact ha)
        obtain ⟨pa, hpa⟩ : ∃ x, P.getD a 0 = x := ⟨_, rfl⟩
        obtain ⟨s, hsg⟩ : ∃ x, gm a = x := ⟨_, rfl⟩
        obtain ⟨ov, hov⟩ : ∃ x, O.getD a 0 = x := ⟨_, rfl⟩
        obtain ⟨vv, hvv⟩ : ∃ x, V.getD a 0 = x := ⟨_, rfl⟩
        obtain ⟨gv, hgv⟩ : ∃ x, G.getD a 0 = x := ⟨_, rfl⟩
        obtain ⟨mv, hmv⟩ : ∃ x, M.getD a 0 = x := ⟨_, rfl⟩
        rw [hpa] at cp p0 p1 g0 g1 htn
        rw [hsg] at s0 s1 m2 g1 htn
        rw [hov] at o0 o1 v1 m1 m2
        rw [hvv] at v0 v1
        rw [hmv] at m0 m1 m2
        rw [hgv] at g0 g1
        simp only [hpa] at hfs hcp
        simp only [hov] at co
        simp only [hvv] at cv
        simp only [hgv] at cg
        simp only [hmv] at cm
        have Ha := Lib.hid ha
        have Hs64 := Lib.hid hs64
        have Hsn := Lib.hid hsn
        have Htn := Lib.hid htn
        have HS := Lib.hid hS
        have Ht := Lib.hid ht
        have Hu := Lib.hid hu
        have Hr := Lib.hid hr
        have Hpa := Lib.hid hpa
        have Hsg := Lib.hid hsg
        have Hov := Lib.hid hov
        have Hvv := Lib.hid hvv
        have Hgv := Lib.hid hgv
        have Hmv := Lib.hid hmv
        have Hfs := Lib.hid hfs
        have Co := Lib.hid co
        have Cv := Lib.hid cv
        have Cg := Lib.hid cg
        have Cm := Lib.hid cm
        have Hcp := Lib.hid hcp
        have HQ := Lib.hid hQ
        clear ha hs64 hsn htn hS ht hu hr hpa hsg hov hvv hgv hmv hfs co cv cg cm hcp hQ
        go_upto_region 21 with fail
        have hc21 : i = 0 ∨ ∃ (j b : Nat) (pb : Int), j + 1 = i ∧ b < n ∧ pa ≤ pb ∧ wr.cell? (fd.add j) = some (.int .i64 (b : Int)) ∧ wr.cell? (pd.add b) = some (.int .i64 pb) := by
          by_cases hi0 : i = 0
          · exact .inl hi0
          · obtain ⟨j, hj⟩ : ∃ j, j + 1 = i := ⟨i - 1, by omega⟩
            obtain ⟨b, hb⟩ := some_of (l := F) (k := j) (by rw [HT.out.lf]; omega)
            have hbn := HT.out.fn b (List.mem_of_getElem? hb)
            exact .inr ⟨j, b, P.getD b 0, hj, hbn, Hfs.out j b hj hb, HcF.out wr j b Hr.out hb, HcP.out wr b Hr.out hbn⟩
        refine r21 hani hlt hn6 cp hc21 ?_
        intros
        rename_i wc hbx
        have hr1 := Hr.out.trans (hbx.mono Hr.out.size)
        clear hbx hc21 f1 f2 f3 e0 e0' e1 hsz hu64 hQ64
        have Hr1 := Lib.hid hr1
        have c0 := keep_of_below Hr1.out _ _ X0.out
        have c1 := keep_of_below Hr1.out _ _ X1.out
        have c2 := Hcp.out _ Hr1.out
        clear hr1 cf cp Hr
        have hrc := Hrc.out a wc (HgW.out _ Hr1.out) han
        rw [Hsg.out] at hrc
        have Hrc' := Lib.hid hrc
        clear hrc
        go_wp2_with fail
        refine Hrc'.out.mono ?_
        rintro e w9 ⟨y1, y2, y3, rfl, y10, y20, y30, hys, hb9⟩
        replace c2 := keep_of_below hb9 _ _ c2
        have Hr9 := Lib.hid (Hr1.out.trans (hb9.mono Hr1.out.size))
        clear hb9 c0 c1 Hr1
        obtain ⟨y12, hy12⟩ : ∃ y, y1 + y2 = y := ⟨_, rfl⟩
        have d1 : IntKind.i64.wrap (y1 + y2) = y12 := by rw [IntWalk.i64_in _ (by omega)]; exact hy12
        have d2 : IntKind.i64.wrap (y12 + y3) = s := by rw [IntWalk.i64_in _ (by omega)]; omega
        clear y10 y20 y30 hys hy12
        obtain ⟨q0, q1⟩ := mul_bd p0 p1 s0 s1
        obtain ⟨ps, hps⟩ : ∃ y, pa * s = y := ⟨_, rfl⟩
        rw [hps] at q0 q1
        have d3 : IntKind.i64.wrap (pa * s) = ps := by rw [hps]; exact IntWalk.i64_in _ (by omega)
        obtain ⟨t2, ht2⟩ : ∃ y, t + ps = y := ⟨_, rfl⟩
        have d4 : IntKind.i64.wrap (t + ps) = t2 := by rw [IntWalk.i64_in _ (by omega)]; exact ht2
        have htn2 : totN P gm (F.take (i + 1)) = t2 := by rw [Htn.out, hps, ht2]
        obtain ⟨o2, ho2⟩ : ∃ y, 2 * ov = y := ⟨_, rfl⟩
        have d5 : IntKind.i64.wrap (2 * ov) = o2 := by rw [IntWalk.i64_in _ (by omega)]; exact ho2
        rw [ho2] at v1
        obtain ⟨mx, hmx⟩ : ∃ y, max 1 s = y := ⟨_, rfl⟩
        rw [hmx] at g1
        have hmx1 : (if (1 : Int) < s then s else 1) = mx := by rw [← hmx]; split <;> omega
        have hmx2 : 0 ≤ mx ∧ mx ≤ 11 := by omega
        obtain ⟨_, x1⟩ := mul_bd p0 p1 hmx2.1 hmx2.2
        obtain ⟨px, hpx⟩ : ∃ y, pa * mx = y := ⟨_, rfl⟩
        rw [hpx] at g1 x1
        have d6 : IntKind.i64.wrap (pa * mx) = px := by rw [hpx]; exact IntWalk.i64_in _ (by omega)
        have k13 : ¬ s < 3 → gv ≤ ps := fun h => by
          have e : mx = s := by omega
          rw [e, hps] at hpx
          omega
        have Hps := Lib.hid hps
        have Ht2 := Lib.hid ht2
        have Htn2 := Lib.hid htn2
        have Ho2 := Lib.hid ho2
        have Hmx := Lib.hid hmx
        have Hpx := Lib.hid hpx
        have K13 := Lib.hid k13
        clear hps ht2 htn2 ho2 hmx hpx k13
        go_upto_region 25 with fail
        refine r25 hani (Cv.out _ Hr9.out) (Co.out _ Hr9.out) (Cm.out _ Hr9.out) (Cg.out _ Hr9.out) c2 d1 d2 d5 hmx1 d6 d3 v0 v1 m1 m0 g0 g1 (fun h => K13.out (by omega)) m2 ?_
        intros
        rename_i wx hbx
        have hr1 := Hr9.out.trans (hbx.mono Hr9.out.size)
        clear hbx Hr9 K13 d1 d2 d3 d4 d5 d6 c2 hmx1 m0 m1 m2 v0 v1 g0 g1 o0 o1 s0 s1 p0 p1 x1 q0 q1 hmx2
        have Hr1 := Lib.hid hr1
        clear hr1
        go_wp2
        go_roundw
        case rel => exact ⟨i + 1, by omega, by go_num, by rw [Hsn.out]; go_num, by rw [Htn2.out], Hr1.out⟩
        case measure => simp [intOf]; omega
      · obtain rfl : i = n := by omega
        have hT0 : totN P gm (F.take i) = O.sum := by rw [List.take_of_length_le (by rw [HT.out.lf]; exact Nat.le_refl _)]; exact HT.out.tot
        rw [hT0]
        have hbw := Hb8.out.trans (hr.mono Hb8.out.size)
        have h40 := Hmn.out 40 wr (by decide) hbw
        have hnz : ((i : Int) == 0) = false := by simp; omega
        have hnz2 : ¬ (i : Int) = 0 := by omega
        obtain ⟨T0, hT0'⟩ : ∃ y, O.sum = y := ⟨_, rfl⟩
        rw [hT0']
        have Hr := Lib.hid hr
        have Hbw := Lib.hid hbw
        have H40 := Lib.hid h40
        have HT0' := Lib.hid hT0'
        clear hr hbw h40 hT0'
        clear hT0 hi hlt
        go_wp2_with fail
        refine H40.out.mono ?_
        rintro e v1 ⟨x, rfl, hx0, hx1, hb1⟩
        obtain ⟨x, rfl⟩ := Int.eq_ofNat_of_zero_le hx0
        obtain ⟨a, ha⟩ : ∃ a, x % i = a := ⟨_, rfl⟩
        have han : a < i := by rw [← ha]; exact Nat.mod_lt _ (by omega)
        have g1 : (x : Int).tmod (i : Int) = (a : Int) := by rw [Int.tmod_eq_emod_of_nonneg (by omega), ← ha]; rfl
        have Hr1 := Lib.hid (Hr.out.trans (hb1.mono Hr.out.size))
        obtain ⟨L, hin⟩ := Hhi.out a han
        have htc := Htc.out a v1 (HgW.out _ Hr1.out)
        rw [Htv.out a han] at htc
        obtain ⟨s, hs⟩ : ∃ s, tiedOf P a = s := ⟨_, rfl⟩
        rw [hs] at hin htc
        obtain ⟨E, hE⟩ : ∃ E, headF (i : Int) rs (s : Int) = E := ⟨_, rfl⟩
        rw [hE] at hin
        obtain ⟨l, hl⟩ : ∃ l, E.length = l := ⟨_, rfl⟩
        have hhc := fun W h => Hhc.out s l W h (by rw [hE, nums_len, hl])
        rw [hE] at hhc
        have y0 := keep_of_below Hr1.out _ _ X0.out
        have y1 := keep_of_below Hr1.out _ _ X1.out
        have Ha := Lib.hid ha
        have Hin := Lib.hid hin
        have Hs := Lib.hid hs
        have HE := Lib.hid hE
        have Hl := Lib.hid hl
        clear ha hin hs hE hl
        have Htd := Lib.hid htc
        clear htc
        have Hhh := Lib.hid hhc
        clear hhc hx0 hx1 hb1 Hr H40 Hhc Htc Htv Hhi
        go_wp2_with fail
        refine Htd.out.mono ?_
        rintro e v2 ⟨rfl, hb2⟩
        have Hr2 := Lib.hid (Hr1.out.trans (hb2.mono Hr1.out.size))
        replace y0 := keep_of_below hb2 _ _ y0
        replace y1 := keep_of_below hb2 _ _ y1
        have hhd := Hhh.out v2 (HgW.out _ Hr2.out)
        have Hhd := Lib.hid hhd
        clear hhd
        clear hb2 Hr1 Htd Hhh
        go_wp2_with fail
        refine Hhd.out.mono ?_
        rintro e v3 ⟨HA, hc, rfl, hih, hb3⟩
        have Hr3 := Lib.hid (Hr2.out.trans (hb3.mono Hr2.out.size))
        clear hb3 Hr2 Hhd y0 y1
        have hslt := Hin.out.lt
        have hi64 : (2 : Nat) ^ i ≤ 64 := Nat.pow_le_pow_right (by decide) (by omega : i ≤ 6)
        have hs64 : s < 64 := Nat.lt_of_lt_of_le hslt hi64
        obtain ⟨u, hu⟩ : ∃ u, s / 2 ^ a = u := ⟨_, rfl⟩
        obtain ⟨hu64, f1, f2⟩ := small_bit hs64 hu
        have hodd : u % 2 = 1 := by rw [← hu]; exact Hin.out.bit
        have f3 : ((u : Int) % 2 != 1) = false := by simp; omega
        have f4 := odd_yes hodd
        have hbc := fun W => calls_v (lbits_c i s W hslt (by omega)) (congrArg (fun k : Nat => Value.int .i64 (k : Int)) (show bitN i s = l from by rw [← Hin.out.len]; exact Hl.out))
        have hsc := fun W (h : Ints W (some od) O) => calls_v (lsum_c (some od) oc O W h (by rw [HT.out.lo]; omega) (fun x hx => by
          obtain ⟨k, hk⟩ := List.getElem?_of_mem hx
          have := HT.out.ob k
          rw [List.getD_eq_getElem?_getD, hk] at this
          simp only [Option.getD_some] at this
          omega)) (congrArg (Value.int .i64) HT0'.out)
        rw [HT.out.lo] at hsc
        have hsd := fun W h => hsc W (HO8.out.keep (keep_of_below h))
        have Hih := Lib.hid hih
        have Hbc := Lib.hid hbc
        have Hu := Lib.hid hu
        have Hodd := Lib.hid hodd
        have Hsd := Lib.hid hsd
        clear hbc hu hodd hsd
        clear hsc hslt hi64 hs64 hu64 hih
        go_wp2_with fail
        refine (Hbc.out _).mono ?_
        rintro e v4 ⟨rfl, hq4⟩
        have Hr4 := Lib.hid (Hr3.out.trans ((hq4.below v3.heap.size).mono Hr3.out.size))
        have Hih4 := Lib.hid (Hih.out.keep hq4.keep)
        clear hq4 Hr3 Hih Hbc
        go_wp2_with fail
        refine (Hsd.out _ Hr4.out).mono ?_
        rintro e v5 ⟨rfl, hq5⟩
        have Hr5 := Lib.hid (Hr4.out.trans ((hq5.below v4.heap.size).mono Hr4.out.size))
        have Hih5 := Lib.hid (Hih4.out.keep hq5.keep)
        clear hq5 Hr4 Hih4 Hsd f1 f2 f3 f4
        go_wp2
        go_loopw [257] (fun iv wq => ∃ j : Nat, j ≤ l ∧ iv = .int .i64 (j : Int) ∧ Below v5.heap.size v5 wq) (fun iv _ => l - (intOf iv).toNat)
        case atStart => exact ⟨0, Nat.zero_le _, rfl, Below.refl _ _⟩
        case round =>
          obtain ⟨j, hj, rfl, hq⟩ := hrel
          have Hq := Lib.hid hq
          have Hq8 := Lib.hid (Hr5.out.trans (hq.mono Hr5.out.size))
          clear hq
          by_cases hlt : j < l
          · have hji : (j : Int) < (l : Int) := by omega
            obtain ⟨b, hb⟩ := some_of (l := E) (k := j) (by rw [Hl.out]; exact hlt)
            obtain ⟨hbn, hbs, hbp⟩ := Hin.out.mem b (List.mem_of_getElem? hb)
            have hbF : F[L + j]? = some b := by rw [Hin.out.at_ j (by rw [Hl.out]; exact hlt)]; exact hb
            have hLj : L + j < i := by have := lt_of hbF; rw [HT.out.lf] at this; exact this
            obtain ⟨hd, rfl, hcb⟩ := (Hih5.out.keep (keep_of_below Hq.out)) j _ (nums_at hb)
            obtain ⟨b0, b1, b2, b3, hbni⟩ := not_lt_int hbn
            have hslt := Hin.out.lt
            have hi64 : (2 : Nat) ^ i ≤ 64 := Nat.pow_le_pow_right (by decide) (by omega : i ≤ 6)
            have hs64 : s < 64 := Nat.lt_of_lt_of_le hslt hi64
            obtain ⟨u, hu⟩ : ∃ u, s / 2 ^ b = u := ⟨_, rfl⟩
            obtain ⟨hu64, f1, f2⟩ := small_bit hs64 hu
            rw [hu] at hbs
            have hani : (a : Int) < (i : Int) := by omega
            have cb := HcP.out wr b Hq8.out hbn
            have ca := HcP.out wr a Hq8.out han
            rw [hbp] at cb
            obtain ⟨pa, hpa⟩ : ∃ y, P.getD a 0 = y := ⟨_, rfl⟩
            rw [hpa] at cb ca
            have Hb := Lib.hid hb
            have HbF := Lib.hid hbF
            have Hu := Lib.hid hu
            have Hpa := Lib.hid hpa
            clear hb hbF hu hpa
            clear hslt hi64 hs64 hu64 hbp
            go_upto_region 36 with fail
            refine r36 hani hbn hn6 f1 f2 hbs cb ca ?_
            intros
            rename_i wx hbx
            have Hx := Lib.hid (Hq8.out.trans (hbx.mono Hq8.out.size))
            have Hxq := Lib.hid (Hq.out.trans (hbx.mono Hq.out.size))
            clear hbx cb ca f1 f2 Hq8 Hq hcb
            go_wp2
            go_loopw [23, 289] (fun av iv wq => ∃ k : Nat, k ≤ i ∧ iv = .int .i64 (k : Int) ∧ av = .int .i64 (if L + j < k then ((L + j : Nat) : Int) else -1) ∧ Below v5.heap.size v5 wq) (fun _ iv _ => i - (intOf iv).toNat)
            case atStart => exact ⟨0, Nat.zero_le _, rfl, by rw [if_neg (by omega)], Hxq.out⟩
            case round =>
              clear Hx Hxq
              obtain ⟨k, hk, rfl, rfl, hz⟩ := hrel
              have Hz := Lib.hid hz
              have Hz8 := Lib.hid (Hr5.out.trans (hz.mono Hr5.out.size))
              clear hz
              by_cases hlk : k < i
              · have hki : (k : Int) < (i : Int) := by omega
                obtain ⟨c', hc'⟩ := some_of (l := F) (k := k) (by rw [HT.out.lf]; exact hlk)
                have hcf := HcF.out wr k c' Hz8.out hc'
                by_cases hkL : k = L + j
                · have ecb : c' = b := by
                    rw [hkL, HbF.out] at hc'
                    injection hc' with e
                    exact e.symm
                  rw [ecb] at hcf
                  have ek : ((k : Nat) : Int) = (if L + j < k + 1 then ((L + j : Nat) : Int) else -1) := by rw [if_pos (by omega)]; omega
                  obtain ⟨at0, hat0⟩ : ∃ y : Int, (if L + j < k then ((L + j : Nat) : Int) else -1) = y := ⟨_, rfl⟩
                  rw [hat0]
                  have Hek := Lib.hid ek
                  clear ek hat0 hkL ecb hc'
                  go_wp2
                  go_roundw
                  case rel => exact ⟨k + 1, by omega, by go_num, by rw [← Hek.out], Hz.out⟩
                  case measure => simp [intOf]; omega
                · have ecb : ((c' : Int) == (b : Int)) = false := by
                    simp
                    intro e
                    have e2 : c' = b := by omega
                    rw [e2] at hc'
                    exact hkL ((List.getElem?_inj (by rw [HT.out.lf]; exact hlk) HT.out.fnd).1 (hc'.trans HbF.out.symm))
                  have ecb2 : (c' == b) = false := by simp; intro e; subst e; simp at ecb
                  have ek : (if L + j < k then ((L + j : Nat) : Int) else -1) = (if L + j < k + 1 then ((L + j : Nat) : Int) else -1) := by
                    by_cases h : L + j < k
                    · rw [if_pos h, if_pos (by omega)]
                    · rw [if_neg h, if_neg (by omega)]
                  obtain ⟨at0, hat0⟩ : ∃ y : Int, (if L + j < k then ((L + j : Nat) : Int) else -1) = y := ⟨_, rfl⟩
                  rw [hat0] at ek ⊢
                  have Hek := Lib.hid ek
                  clear ek hat0 hkL hc'
                  go_wp2
                  go_roundw
                  case rel => exact ⟨k + 1, by omega, by go_num, by rw [Hek.out], Hz.out⟩
                  case measure => simp [intOf]; omega
              · obtain rfl : k = i := by omega
                rw [if_pos hLj]
                obtain ⟨K, hK⟩ : ∃ K, L + j = K := ⟨_, rfl⟩
                rw [hK] at hLj ⊢
                have HK := Lib.hid hK
                clear hK hlk hk
                have hjk : j < k := by have := HK.out; omega
                go_upto_region 45 with fail
                have hc45 : j = 0 ∨ ∃ (j2 K2 b : Nat), j2 + 1 = j ∧ K2 + 1 = K ∧ wr.cell? (fd.add K2) = some (.int .i64 (b : Int)) ∧ wr.cell? (hd.add j2) = some (.int .i64 (b : Int)) := by
                  by_cases hj0 : j = 0
                  · exact .inl hj0
                  · obtain ⟨j2, hj2⟩ : ∃ j2, j2 + 1 = j := ⟨j - 1, by omega⟩
                    obtain ⟨K2, hK2⟩ : ∃ K2, K2 + 1 = K := ⟨K - 1, by have := HK.out; omega⟩
                    obtain ⟨b', hb'⟩ := some_of (l := E) (k := j2) (by rw [Hl.out]; omega)
                    have hbF' : F[K2]? = some b' := by
                      have h1 := Hin.out.at_ j2 (by rw [Hl.out]; omega)
                      rw [show L + j2 = K2 by have := HK.out; omega] at h1
                      rw [h1]; exact hb'
                    exact .inr ⟨j2, K2, b', hj2, hK2, HcF.out wr K2 b' Hz8.out hbF', ints_at (Hih5.out.keep (keep_of_below Hz.out)) (nums_at hb')⟩
                refine r45 hLj hn6 hlt (by have := HK.out; omega) hc45 ?_
                intros
                rename_i wx hbx
                have hr1 := Hz.out.trans (hbx.mono Hz.out.size)
                clear hbx hc45
                have Hr1 := Lib.hid hr1
                clear hr1
                clear Hz Hz8
                go_wp2
                go_roundw
                case rel => exact ⟨j + 1, by omega, by go_num, Hr1.out⟩
                case measure => simp [intOf]; omega
          · obtain rfl : j = l := by omega
            clear hlt hj
            have Hbz := Lib.hid (Hb8.out.trans ((Hr5.out.trans (Hq.out.mono Hr5.out.size)).mono Hb8.out.size))
            obtain ⟨z, hz⟩ : ∃ z, wr = z := ⟨_, rfl⟩
            rw [hz] at Hbz ⊢
            clear hz Hq Hq8 Hih5 Hr5 X0 X1 x0 x1 HcP HcF HcO HcV HcG HcM HO8 HgW Hrc Hin HT0' Hl HE Hs Ha hnz hnz2 g1 han
            have hn42 := Hmn.out 42 z (by decide) Hbz.out
            have Hn42 := Lib.hid hn42
            clear hn42
            go_wp2_with fail
            refine Hn42.out.mono ?_
            rintro e zA ⟨x1, rfl, h0, h1, hb1⟩
            obtain ⟨x1, rfl⟩ := Int.eq_ofNat_of_zero_le h0
            obtain ⟨g, hg⟩ : ∃ g, x1 % 4 = g := ⟨_, rfl⟩
            have hg4 : g < 4 := by rw [← hg]; exact Nat.mod_lt _ (by decide)
            have eg : (x1 : Int).tmod 4 = (g : Int) := by rw [Int.tmod_eq_emod_of_nonneg (by omega), ← hg]; rfl
            have HbzA := Lib.hid (Hbz.out.trans (hb1.mono Hbz.out.size))
            clear Hbz h0 h1 hb1 hg Hn42
            have hn44 := Hmn.out 44 zA (by decide) HbzA.out
            have Hn44 := Lib.hid hn44
            clear hn44
            go_wp2_with fail
            refine Hn44.out.mono ?_
            rintro e zB ⟨x2, rfl, h0, h1, hb1⟩
            obtain ⟨x2, rfl⟩ := Int.eq_ofNat_of_zero_le h0
            obtain ⟨t, ht⟩ : ∃ t, x2 % 4 = t := ⟨_, rfl⟩
            have ht4 : t < 4 := by rw [← ht]; exact Nat.mod_lt _ (by decide)
            have et : (x2 : Int).tmod 4 = (t : Int) := by rw [Int.tmod_eq_emod_of_nonneg (by omega), ← ht]; rfl
            have HbzB := Lib.hid (HbzA.out.trans (hb1.mono HbzA.out.size))
            clear HbzA h0 h1 hb1 ht Hn44
            obtain ⟨YA, hYA⟩ : ∃ Y, zB.heap.size = Y := ⟨_, rfl⟩
            obtain ⟨a0, a1, a2, a3⟩ := box4 zB (.int .i64 0) (.int .i64 1) (.int .i64 (g : Int)) (.int .i64 (t : Int)) 47
            have hbA : Below zB.heap.size zB (zB.alloc (.cells #[.int .i64 0, .int .i64 1, .int .i64 (g : Int), .int .i64 (t : Int)] 47)) := (Below.refl _ _).alloc (Nat.le_refl _) _
            obtain ⟨zC, hzC⟩ : ∃ y, zB.alloc (.cells #[.int .i64 0, .int .i64 1, .int .i64 (g : Int), .int .i64 (t : Int)] 47) = y := ⟨_, rfl⟩
            rw [hzC] at a0 a1 a2 a3 hbA
            rw [hYA] at a0 a1 a2 a3
            have HbzC := Lib.hid (HbzB.out.trans (hbA.mono HbzB.out.size))
            have HeA := Lib.hid hzC
            clear hbA hzC HbzB
            have hn46 := Hmn.out 46 zC (by decide) HbzC.out
            have Hn46 := Lib.hid hn46
            clear hn46
            go_wp2_with fail
            rw [HeA.out]
            refine Hn46.out.mono ?_
            rintro e zD ⟨x3, rfl, h0, h1, hb1⟩
            obtain ⟨x3, rfl⟩ := Int.eq_ofNat_of_zero_le h0
            obtain ⟨p, hp⟩ : ∃ p, x3 % 4 = p := ⟨_, rfl⟩
            have hp4 : p < 4 := by rw [← hp]; exact Nat.mod_lt _ (by decide)
            have ep : (x3 : Int).tmod 4 = (p : Int) := by rw [Int.tmod_eq_emod_of_nonneg (by omega), ← hp]; rfl
            have HbzD := Lib.hid (HbzC.out.trans (hb1.mono HbzC.out.size))
            replace a0 := keep_of_below hb1 _ _ a0
            replace a1 := keep_of_below hb1 _ _ a1
            replace a2 := keep_of_below hb1 _ _ a2
            replace a3 := keep_of_below hb1 _ _ a3
            clear HbzC h0 h1 hb1 hp Hn46 HeA
            have hn48 := Hmn.out 48 zD (by decide) HbzD.out
            have Hn48 := Lib.hid hn48
            clear hn48
            go_wp2_with fail
            refine Hn48.out.mono ?_
            rintro e zE ⟨x4, rfl, h0, h1, hb1⟩
            obtain ⟨x4, rfl⟩ := Int.eq_ofNat_of_zero_le h0
            obtain ⟨q, hq⟩ : ∃ q, x4 % 4 = q := ⟨_, rfl⟩
            have hq4 : q < 4 := by rw [← hq]; exact Nat.mod_lt _ (by decide)
            have eq : (x4 : Int).tmod 4 = (q : Int) := by rw [Int.tmod_eq_emod_of_nonneg (by omega), ← hq]; rfl
            have HbzE := Lib.hid (HbzD.out.trans (hb1.mono HbzD.out.size))
            replace a0 := keep_of_below hb1 _ _ a0
            replace a1 := keep_of_below hb1 _ _ a1
            replace a2 := keep_of_below hb1 _ _ a2
            replace a3 := keep_of_below hb1 _ _ a3
            clear HbzD h0 h1 hb1 hq Hn48
            obtain ⟨YB, hYB⟩ : ∃ Y, zE.heap.size = Y := ⟨_, rfl⟩
            obtain ⟨b0, b1, b2, b3⟩ := box4 zE (.int .i64 1) (.int .i64 0) (.int .i64 (p : Int)) (.int .i64 (q : Int)) 47
            have hbB : Below zE.heap.size zE (zE.alloc (.cells #[.int .i64 1, .int .i64 0, .int .i64 (p : Int), .int .i64 (q : Int)] 47)) := (Below.refl _ _).alloc (Nat.le_refl _) _
            rw [hYB] at b0 b1 b2 b3
            replace a0 := keep_of_below hbB _ _ a0
            replace a1 := keep_of_below hbB _ _ a1
            replace a2 := keep_of_below hbB _ _ a2
            replace a3 := keep_of_below hbB _ _ a3
            have HbzF := Lib.hid (HbzE.out.trans (hbB.mono HbzE.out.size))
            clear hbB HbzE
            obtain ⟨r1, r2, r3, r4⟩ := away_facts (g : Int) (t : Int) (p : Int) (q : Int)
            have hw1 := fun W => away_c 0 1 (g : Int) (t : Int) (p : Int) (q : Int) W (by decide) (by omega) (by omega) (by omega) (by omega)
            have hw2 := fun W => away_c 1 0 (p : Int) (q : Int) (g : Int) (t : Int) W (by decide) (by omega) (by omega) (by omega) (by omega)
            rw [← r1] at hw2
            obtain ⟨r, hr⟩ : ∃ r, awayF 0 1 (g : Int) (t : Int) (p : Int) (q : Int) = r := ⟨_, rfl⟩
            rw [hr] at hw1 hw2 r2 r3 r4
            have s1 : IntKind.i64.wrap ((g : Int) + (q : Int)) = (g : Int) + (q : Int) := IntWalk.i64_in _ (by omega)
            have s2 : IntKind.i64.wrap ((t : Int) + (p : Int)) = (t : Int) + (p : Int) := IntWalk.i64_in _ (by omega)
            have s3 : decide (-1 ≤ r) = true := by simp; omega
            have s4 : decide (r ≤ 1) = true := by simp; omega
            have Hw1 := Lib.hid hw1
            have Hw2 := Lib.hid hw2
            have Hr4 := Lib.hid r4
            clear hw1 hw2 r1 hr r4
            go_wp2_with fail
            refine (Hw1.out _).mono ?_
            rintro e zG ⟨rfl, hb1⟩
            replace a0 := keep_of_below hb1 _ _ a0
            replace a1 := keep_of_below hb1 _ _ a1
            replace a2 := keep_of_below hb1 _ _ a2
            replace a3 := keep_of_below hb1 _ _ a3
            replace b0 := keep_of_below hb1 _ _ b0
            replace b1 := keep_of_below hb1 _ _ b1
            replace b2 := keep_of_below hb1 _ _ b2
            replace b3 := keep_of_below hb1 _ _ b3
            have HbzG := Lib.hid (HbzF.out.trans (hb1.mono HbzF.out.size))
            clear hb1 HbzF Hw1
            go_wp2_with fail
            refine (Hw2.out _).mono ?_
            rintro e zH ⟨rfl, hb1⟩
            replace a0 := keep_of_below hb1 _ _ a0
            replace a1 := keep_of_below hb1 _ _ a1
            replace a2 := keep_of_below hb1 _ _ a2
            replace a3 := keep_of_below hb1 _ _ a3
            replace b0 := keep_of_below hb1 _ _ b0
            replace b1 := keep_of_below hb1 _ _ b1
            replace b2 := keep_of_below hb1 _ _ b2
            replace b3 := keep_of_below hb1 _ _ b3
            have HbzH := Lib.hid (HbzG.out.trans (hb1.mono HbzG.out.size))
            clear hb1 HbzG Hw2
            by_cases hr1 : r = -1
            · obtain ⟨u1, u2⟩ := Hr4.out hr1
              have u3 : ((g : Int) + (q : Int) == (t : Int) + (p : Int)) = true := by simp; omega
              have u4 : ((t : Int) == (q : Int)) = true := by simp; omega
              have u5 : (t == q) = true := by simp; omega
              have u6 : (r != -1) = false := by simp [hr1]
              clear hr1 Hr4 u1 u2 r2 r3
              go_wp2
              go_ret
              exact ⟨rfl, HbzH.out⟩
            · have u6 : (r != -1) = true := by simp [hr1]
              clear hr1 Hr4 r2 r3
              go_wp2
              go_ret
              exact ⟨rfl, HbzH.out⟩
end Go.Proofs.Ytehlijpjcjegcaa
