/- Contract: the table by points and the games among the tied (reference). -/
import Derived.Test.YtehlijpjcjegcaaFairP
import Derived.Test.YtehlijpjcjegcaaHeadS
namespace Go.Proofs.Ytehlijpjcjegcaa
set_option linter.unusedSimpArgs false
set_option linter.unusedVariables false
open Go.RowKit

theorem cell_empty {W : World} {K : Nat} {T : TypeId} {f : Nat × Nat} (h : W.heap[K]? = some (.cells #[] T f)) {p : Addr} {v : Value} (hc : W.cell? p = some v) : p.block ≠ K := by
  intro e
  unfold World.cell? at hc
  rw [e, h] at hc
  simp at hc
theorem keep_empty {W W' : World} {K : Nat} {T : TypeId} {f : Nat × Nat} (h : W.heap[K]? = some (.cells #[] T f)) (ho : Only K (K + 1) W W') : Keep W W' := fun p v hc =>
  cell_only ho hc (by have := cell_empty h hc; omega)

set_option maxRecDepth 100000 in
set_option maxHeartbeats 8000000 in
theorem sFairTable_c (n : Int) (A : Option Addr) (c : Nat) (rs : List Res) (w : World) (ha : Games w A rs) (hm : rs.length ≤ 1048576) :
    Calls Try.prog 30 #[lgv n A rs.length c] w (GivesI 3 w (nums (fairF n rs))) := by
  obtain ⟨R, hR⟩ : ∃ R, fairF n rs = R := ⟨_, rfl⟩
  rw [hR]
  have hlc := fun W (h : Games W A rs) => sLeagueOk_c n A c rs W h hm
  obtain ⟨b0, b1⟩ := box2 w (.int .i64 n) (.slice A rs.length c) 29
  have hbw : Below w.heap.size w (w.alloc (.cells #[.int .i64 n, .slice A rs.length c] 29)) := (Below.refl _ _).alloc (Nat.le_refl _) _
  have hg0 := ha.keep (keep_of_below hbw)
  have hhc := fun (s : Int) W (h : Games W A rs) => sHeadTable_c n A c rs s W h hm
  unfold lgv at hlc hhc ⊢
  cases h1 : leagueOk n rs
  · have hR2 : R = [] := by rw [← hR, fairF, if_neg (by rw [h1]; decide)]
    subst hR2
    simp only [h1] at hlc
    have Ha := Lib.hid ha
    have Hlc := Lib.hid hlc
    have Hbw := Lib.hid hbw
    have Hg0 := Lib.hid hg0
    have H1 := Lib.hid h1
    have HR := Lib.hid hR
    have Hhc := Lib.hid hhc
    clear ha hlc hbw hg0 h1 hR hhc
    go_enter Try.func30, Try.ntmps30
    go_wp2_with fail
    refine (Hlc.out _ Hg0.out).mono ?_
    rintro e w1 ⟨rfl, hb⟩
    go_wp2
    go_ret
    exact ⟨none, 0, rfl, Own.nil .., Hbw.out.trans (hb.mono Hbw.out.size)⟩
  · have hL := league_of h1
    obtain ⟨n, rfl⟩ := Int.eq_ofNat_of_zero_le (show 0 ≤ n by have := hL.two; omega)
    have hn8 : n ≤ 8 := by have := hL.eight; omega
    have hn2 : 2 ≤ n := by have := hL.two; omega
    have hR2 : (levF (pointsF n rs)).flatMap (fairLv n rs) = R := by rw [← hR, fairF, if_pos h1, Int.toNat_natCast]
    have hpc := fun W (h : Games W A rs) => l12All_c n A c rs W h h1
    have hpl := pointsF_len hL
    simp only [h1] at hlc
    unfold lgv at hpc
    obtain ⟨m, hmm⟩ : ∃ m, rs.length = m := ⟨_, rfl⟩
    rw [hmm] at hlc hpc hbw hg0 b0 b1 hhc ⊢
    have HL := Lib.hid hL
    have Ha := Lib.hid ha
    have Hlc := Lib.hid hlc
    have Hbw := Lib.hid hbw
    have Hg0 := Lib.hid hg0
    have H1 := Lib.hid h1
    have HR := Lib.hid hR
    have HR2 := Lib.hid hR2
    have Hpc := Lib.hid hpc
    have Hmm := Lib.hid hmm
    have Hpl := Lib.hid hpl
    have Hhc := Lib.hid hhc
    clear ha hlc hbw hg0 h1 hR hR2 hpc hmm hpl hhc
    clear hL
    go_enter Try.func30, Try.ntmps30
    go_wp2_with fail
    refine (Hlc.out _ Hg0.out).mono ?_
    rintro e w1 ⟨rfl, hb⟩
    have c0 := keep_of_below hb _ _ b0
    have c1 := keep_of_below hb _ _ b1
    have Hb := Lib.hid (Hbw.out.trans (hb.mono Hbw.out.size))
    clear hb b0 b1
    go_wp2_with fail
    refine (Hpc.out _ (Ha.out.keep (keep_of_below Hb.out))).mono ?_
    rintro e w2 ⟨PA, pc, rfl, hpo, hb2⟩
    obtain ⟨P, hP⟩ : ∃ P, pointsF n rs = P := ⟨_, rfl⟩
    have hPl : P.length = n := by rw [← hP, Hpl.out]
    rw [hP] at hpo ⊢
    have d0 := keep_of_below hb2 _ _ c0
    have d1 := keep_of_below hb2 _ _ c1
    have Hb2 := Lib.hid (Hb.out.trans (hb2.mono Hb.out.size))
    have hk0 := new_empty 3 w2.heap.size w2 (Nat.le_refl _)
    have hraw : (w2.alloc (.cells #[] 3)).heap[w2.heap.size]? = some (.cells #[] 3) := heap_alloc_new w2 _
    have hba : Below w2.heap.size w2 (w2.alloc (.cells #[] 3)) := (Below.refl _ _).alloc (Nat.le_refl _) _
    have hsz : (w2.alloc (.cells #[] 3)).heap.size = w2.heap.size + 1 := by simp
    obtain ⟨w3, hw3⟩ : ∃ w3, w2.alloc (.cells #[] 3) = w3 := ⟨_, rfl⟩
    obtain ⟨K0, hK0⟩ : ∃ K0, w2.heap.size = K0 := ⟨_, rfl⟩
    rw [hw3, hK0] at hk0 hraw hba hsz
    have hb3 : Below w.heap.size w w3 := Hb2.out.trans (hba.mono (by rw [← hK0]; exact Hb2.out.size))
    have hp3 : Ints w3 PA P := hpo.ints.keep (by rw [← hK0] at hba; exact keep_of_below hba)
    have q0 : w3.cell? ⟨w.heap.size, 0, none⟩ = some (.int .i64 n) := by rw [← hK0] at hba; exact keep_of_below hba _ _ d0
    have q1 : w3.cell? ⟨w.heap.size, 1, none⟩ = some (.slice A m c) := by rw [← hK0] at hba; exact keep_of_below hba _ _ d1
    have hlev := sLevelsOf_c PA pc P w3 hp3 (by omega) (by omega)
    obtain ⟨X, hX⟩ : ∃ X, levF P = X := ⟨_, rfl⟩
    rw [hX] at hlev
    rw [hPl] at hlev ⊢
    have hwk : w.heap.size ≤ K0 := by rw [← hK0]; exact Hb2.out.size
    have HP := Lib.hid hP
    have HPl := Lib.hid hPl
    have HX := Lib.hid hX
    have Hw3 := Lib.hid hw3
    have HK0 := Lib.hid hK0
    have Hlev := Lib.hid hlev
    have Hk0 := Lib.hid hk0
    have Hraw := Lib.hid hraw
    have Hsz := Lib.hid hsz
    have Hb3 := Lib.hid hb3
    have Hp3 := Lib.hid hp3
    clear hlev hk0 hraw hsz hb3 hp3
    clear hb2 hpo c0 c1 d0 d1 hP hPl hX hw3 hK0 hba
    go_wp2_with fail
    rw [Hw3.out, HK0.out]
    refine Hlev.out.mono ?_
    rintro e w4 ⟨LA, lc, rfl, hrows, hb4⟩
    have e0 := keep_of_below hb4 _ _ q0
    have e1 := keep_of_below hb4 _ _ q1
    have hb4w : Below w.heap.size w w4 := Hb3.out.trans (hb4.mono Hb3.out.size)
    have hp4 : Ints w4 PA P := Hp3.out.keep (keep_of_below hb4)
    have hk3 := Hk0.out.below hb4
    rw [Hsz.out] at hb4
    have hz4 := hb4.size
    rw [Hsz.out] at hz4
    have hraw4 : w4.heap[K0]? = some (.cells #[] 3) := (hb4.block K0 (by omega)).trans Hraw.out
    have hkp : ∀ W, Only K0 (K0 + 1) w4 W → Keep w4 W := fun W h => keep_empty hraw4 h
    have hk4 : Own 3 K0 w4.heap.size w4 (some ⟨K0, 0, none⟩) 0 [] := hk3.wide (Nat.le_refl _) (by have := Hsz.out; omega)
    obtain ⟨Z, hZ⟩ : ∃ Z, w4.heap.size = Z := ⟨_, rfl⟩
    have HZ := Lib.hid hZ
    have hKZ : K0 ≤ Z := by omega
    have hXs : X.length ≤ 8 := by have := levF_small P; rw [HX.out, HPl.out] at this; omega
    have hxt : ∀ lv, lv ∈ X → ∃ (a : Nat) (r : List Nat), lv = (a :: r).map (fun a : Nat => (a : Int)) ∧ (∀ b ∈ a :: r, b < n) := fun lv h => by
      have := (set_tied (l := P) (lv := lv) (by rw [HX.out]; exact h)).2
      rwa [HPl.out] at this
    have hR3 : X.flatMap (fairLv n rs) = R := by have := HR2.out; rwa [HP.out, HX.out] at this
    obtain ⟨N, hN⟩ : ∃ N, X.length = N := ⟨_, rfl⟩
    rw [hN] at hXs ⊢
    have Hxt := Lib.hid hxt
    have HR3 := Lib.hid hR3
    have HN := Lib.hid hN
    have Hkp := Lib.hid hkp
    have Hk4 := Lib.hid hk4
    have Hp4 := Lib.hid hp4
    have Hrows := Lib.hid hrows
    have Hb4w := Lib.hid hb4w
    clear hxt hR3 hN hkp hk4 hp4 hrows hb4w
    clear hk3 hb4 q0 q1 hZ hraw4 Hk0 Hraw Hsz Hw3 HK0
    go_wp2
    go_loopw [4, 16] (fun v i wr => ∃ (k g1 c1 : Nat), k ≤ N ∧ i = .int .i64 k ∧ v = .slice (some ⟨g1, 0, none⟩) ((X.take k).flatMap (fairLv n rs)).length c1 ∧ Own 3 K0 wr.heap.size wr (some ⟨g1, 0, none⟩) c1 ((nums ((X.take k).flatMap (fairLv n rs))).map (.int .i64)) ∧ (g1 = K0 ∨ Z ≤ g1) ∧ Only K0 (K0 + 1) w4 wr) (fun _ i _ => N - (intOf i).toNat)
    case atStart => exact ⟨0, K0, 0, Nat.zero_le _, rfl, rfl, Hk4.out, .inl rfl, Only.refl _ _ _⟩
    case round =>
      obtain ⟨k, g1, c1, hk, rfl, rfl, ho, hg1, hon⟩ := hrel
      have hbr : Below w.heap.size w wr := Hb4w.out.trans (below_of_only hon hwk Hb4w.out.size)
      by_cases hlt : k < N
      · have hki : (k : Int) < (N : Int) := by omega
        obtain ⟨lv, hlv⟩ := some_of (l := X) (k := k) (by rw [HN.out]; exact hlt)
        obtain ⟨a, r, hlve, hbn⟩ := Hxt.out lv (List.mem_of_getElem? hlv)
        have hrz : Rows wr LA X := Hrows.out.keep (Hkp.out _ hon)
        obtain ⟨ld, a0, d0, rfl, hld, _, hch, hin⟩ := hrz k lv hlv
        have hv0 : lv[0]? = some (a : Int) := by rw [hlve]; rfl
        have hin4 : Ints w4 a0 lv := by
          obtain ⟨ld4, a4, d4, e4, _, _, hc4, hi4⟩ := Hrows.out k lv hlv
          injection e4 with e4; subst e4
          have := Hkp.out _ hon _ _ hc4
          rw [hch] at this
          injection this with this
          injection this with t1 t2 t3
          subst t1; exact hi4
        obtain ⟨h0, rfl, ca⟩ := hin4 0 (a : Int) hv0
        have ca0 : w4.cell? h0 = some (.int .i64 (a : Int)) := ca
        have han : a < n := hbn a (by simp)
        have hll : 0 < lv.length := by rw [hlve]; simp
        have hta := fun W (h : Ints W PA P) => l13Tied_c PA pc P a W h (by rw [HPl.out]; exact hn8) (by rw [HPl.out]; exact han)
        rw [HPl.out] at hta
        obtain ⟨s, hs⟩ : ∃ s : Nat, tiedOf P a = s := ⟨_, rfl⟩
        rw [hs] at hta
        have hhs := fun W h => Hhc.out (s : Int) W h
        obtain ⟨T, hT⟩ : ∃ T, headF n rs (s : Int) = T := ⟨_, rfl⟩
        have hT8 : T.length ≤ 8 := by rw [← hT]; exact headF_8 _ _ _
        rw [hT] at hhs
        have hfl : fairLv n rs lv = T := by rw [fairLv, HP.out, hlve, head_toNat, hs, hT]
        have hstep := flatMap_take (fairLv n rs) hlv
        rw [hfl] at hstep
        have hq := flat_take (fairLv n rs) (fun x => headF_8 _ _ _) (xs := X) (k := k) (by omega)
        obtain ⟨Q, hQ⟩ : ∃ Q, (X.take k).flatMap (fairLv n rs) = Q := ⟨_, rfl⟩
        rw [hQ] at ho hstep hq ⊢
        have hnT : (nums T).length = T.length := by rw [nums, List.length_map]
        have hql : ((nums Q).map (Value.int .i64)).length = Q.length := vals_len Q
        have htl : ((nums T).map (Value.int .i64)).length = T.length := vals_len T
        have hvs : (nums Q).map (Value.int .i64) ++ (nums T).map (Value.int .i64) = (nums ((X.take (k + 1)).flatMap (fairLv n rs))).map (.int .i64) := by rw [hstep, ← nums_append, List.map_append]
        have hlen : ((X.take (k + 1)).flatMap (fairLv n rs)).length = Q.length + T.length := by rw [hstep, List.length_append]
        have ho0 := (ho.below (belowd wr)).wide (Nat.le_refl K0) (belowd wr).size
        have hkeep : ∀ W, Only K0 (K0 + 1) w4 W → (W.cell? ⟨w.heap.size, 0, none⟩ = some (.int .i64 n) ∧ W.cell? ⟨w.heap.size, 1, none⟩ = some (.slice A m c) ∧ W.cell? h0 = some (.int .i64 (a : Int)) ∧ Only K0 (K0 + 1) w4 W) := fun W h =>
          ⟨Hkp.out _ h _ _ e0, Hkp.out _ h _ _ e1, Hkp.out _ h _ _ ca0, h⟩
        have hon0 : Only K0 (K0 + 1) w4 wr.drew := only_belowZ hon (belowd wr)
        have hz0 : Z ≤ wr.drew.heap.size := by have := hon0.size; have := HZ.out; omega
        have hgm : ∀ (W : World), Only K0 (K0 + 1) w4 W → Games W A rs := fun W h => (Ha.out.keep (keep_of_below Hb4w.out)).keep (Hkp.out _ h)
        have hpm : ∀ (W : World), Only K0 (K0 + 1) w4 W → Ints W PA P := fun W h => Hp4.out.keep (Hkp.out _ h)
        have hll2 : (0 : Int) < (lv.length : Int) := by omega
        have Hta := Lib.hid hta
        have Hhs := Lib.hid hhs
        have HT := Lib.hid hT
        have Hfl := Lib.hid hfl
        have Hstep := Lib.hid hstep
        have HQ := Lib.hid hQ
        have HnT := Lib.hid hnT
        have Hql := Lib.hid hql
        have Htl := Lib.hid htl
        have Hvs := Lib.hid hvs
        have Hlen := Lib.hid hlen
        have Ho := Lib.hid ho
        have Ho0 := Lib.hid ho0
        have Hbr := Lib.hid hbr
        have Hs := Lib.hid hs
        have Hlve := Lib.hid hlve
        have Hlv := Lib.hid hlv
        have Hrz := Lib.hid hrz
        have Hbn := Lib.hid hbn
        have Hgm := Lib.hid hgm
        have Hpm := Lib.hid hpm
        have Hin := Lib.hid hin
        have Hin4 := Lib.hid hin4
        have Hon := Lib.hid hon
        clear hta hhs hT hfl hstep hQ hnT hql htl hvs hlen ho ho0 hbr hs hlve hlv hrz hbn hgm hpm hin hin4 hon
        clear ca ca0 e0 e1
        go_wp2
        (go_region_held3 (fun W' => W'.cell? ⟨w.heap.size, 0, none⟩ = some (.int .i64 n) ∧ W'.cell? ⟨w.heap.size, 1, none⟩ = some (.slice A m c) ∧ W'.cell? h0 = some (.int .i64 (a : Int)) ∧ Only K0 (K0 + 1) w4 W')
          (first | assumption | exact hkeep _ (by assumption))
          (first
            | (go_at_call 41; refine (Hta.out _ (Hpm.out _ hon0)).mono ?_; rintro e v1 ⟨rfl, hq⟩; (have hbv := hq.below wr.drew.heap.size); (have ho1 := (Ho0.out.below hbv).wide (Nat.le_refl K0) hbv.size); (have hon1 := only_belowZ hon0 hbv); (have hz1 : Z ≤ v1.heap.size := Nat.le_trans hz0 hbv.size); have Ho1 := Lib.hid ho1; clear hq hbv ho1)
            | (go_at_call 28; refine (Hhs.out _ (Hgm.out _ hon1)).mono ?_; rintro e w5 ⟨B, d, rfl, ho5, hb5⟩; rw [HnT.out]; (have ho6 := (Ho1.out.below hb5).wide (Nat.le_refl K0) hb5.size); (have hon5 := only_belowZ hon1 hb5); (have hz5 : Z ≤ w5.heap.size := Nat.le_trans hz1 hb5.size); (have hk5 : K0 ≤ w5.heap.size := by omega); (have Hsrc := Lib.hid ho5.cells); have Ho6 := Lib.hid ho6; clear ho5 hb5 ho6)
            | (refine step_appN rfl (.tmp 20) (.tmp 27) 33 rfl 3 (.int .i64 0) 8 Try.underlying33 info_int rfl K0 (some ⟨g1, 0, none⟩) c1 ((nums Q).map (.int .i64)) Ho6.out hk5 B d ((nums T).map (.int .i64)) Hsrc.out (fun u hu => by obtain ⟨y, _, rfl⟩ := List.mem_map.1 hu; rfl) (by rw [Hql.out]; omega) (by rw [Htl.out]; omega) (by decide) Q.length T.length Hql.out.symm Htl.out.symm rfl rfl ?_; rw [Hvs.out]; intro A3 c3 w6 ho7 hg7 hl7 hn7; (have hon6 : Only K0 (K0 + 1) w4 w6 := only_stepZ HZ.out hon5 hg1 hg7); (have Hl7 := Lib.hid hl7); have Ho7 := Lib.hid ho7; clear ho7 hg7 hl7)))
        all_goals
          have hne3 : ∃ g3, A3 = some ⟨g3, 0, none⟩ ∧ (g3 = K0 ∨ Z ≤ g3) := by
            cases A3 with
            | none =>
              exact absurd (hn7 rfl) (by simp)
            | some b =>
              obtain ⟨_, _, eb⟩ := Ho7.out.le
              refine ⟨b.block, by rw [← eb], ?_⟩
              rcases Hl7.out b rfl with h | h
              · injection h with h; rw [← h]; exact hg1
              · right; omega
          obtain ⟨g3, rfl, hg3⟩ := hne3
          go_wp2
          go_roundw
          case rel => exact ⟨k + 1, g3, c3, by omega, by go_num, by rw [Hlen.out], Ho7.out, hg3, by assumption⟩
          case measure => simp [intOf]; omega
      · obtain rfl : k = N := by omega
        rw [List.take_of_length_le (by rw [HN.out]; exact Nat.le_refl _), HR3.out] at ho ⊢
        have hRl : (nums R).length = R.length := by rw [nums, List.length_map]
        have hoR := ho.wide (lo' := w.heap.size) hwk (Nat.le_refl _)
        have Ho := Lib.hid ho
        have HoR := Lib.hid hoR
        have Hon := Lib.hid hon
        have Hbr := Lib.hid hbr
        have HRl := Lib.hid hRl
        clear ho hoR hon hbr hRl
        go_wp2
        go_ret
        exact ⟨_, c1, by rw [HRl.out]; rfl, HoR.out, Hbr.out⟩
end Go.Proofs.Ytehlijpjcjegcaa
