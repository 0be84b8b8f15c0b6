/- The table by points and the games among the tied (plain), the program's FairTable. -/
import Derived.Test.YtehlijpjcjegcaaTie
import Derived.Deep.RegionHeld3
namespace Go.Proofs.Ytehlijpjcjegcaa
set_option linter.unusedSimpArgs false
set_option linter.unusedVariables false
open Go.RowKit

def fairLv (n : Nat) (rs : List Res) (lv : List Int) : List Nat := headF n rs ((tiedOf (pointsF n rs) (lv.getD 0 0).toNat : Nat) : Int)
def fairF (n : Int) (rs : List Res) : List Nat := if leagueOk n rs = true then (levF (pointsF n.toNat rs)).flatMap (fairLv n.toNat rs) else []
theorem headF_8 (n : Int) (rs : List Res) (s : Int) : (headF n rs s).length ≤ 8 := by
  rw [headF]
  split
  · rename_i h
    have h1 := h.1
    rw [amongOk, Bool.and_eq_true] at h1
    have h8 := (league_of h1.1).eight
    refine Nat.le_trans (List.length_filter_le _ _) ?_
    rw [tabF]
    split
    · rw [tableF, insAll_len]; omega
    · simp
  · simp
theorem flat_len {α : Type} (f : α → List Nat) (h : ∀ x, (f x).length ≤ 8) : ∀ xs : List α, (xs.flatMap f).length ≤ 8 * xs.length
  | [] => by simp
  | x :: r => by
    have := flat_len f h r
    have := h x
    rw [List.flatMap_cons, List.length_append, List.length_cons]; omega
theorem levF_small (l : List Int) : (levF l).length ≤ l.length := by rw [← levTo_end]; exact levTo_small l l.length
theorem fairF_len (n : Int) (rs : List Res) : (nums (fairF n rs)).length ≤ 1048576 := by
  rw [nums, List.length_map, fairF]
  split
  · rename_i h
    have hL := league_of h
    obtain ⟨n, rfl⟩ := Int.eq_ofNat_of_zero_le (show 0 ≤ n by have := hL.two; omega)
    have h8 := hL.eight
    have h1 := flat_len (fairLv n rs) (fun x => headF_8 _ _ _) (levF (pointsF n rs))
    have h2 := levF_small (pointsF n rs)
    rw [pointsF_len hL] at h2
    rw [Int.toNat_natCast]; omega
  · simp
theorem flatMap_take {α : Type} (f : α → List Nat) {xs : List α} {k : Nat} {x : α} (h : xs[k]? = some x) : (xs.take (k + 1)).flatMap f = (xs.take k).flatMap f ++ f x := by
  rw [take_of h, List.flatMap_append, List.flatMap_cons, List.flatMap_nil, List.append_nil]
theorem flat_take {α : Type} (f : α → List Nat) (h : ∀ x, (f x).length ≤ 8) {xs : List α} {k : Nat} (hk : k ≤ 8) : ((xs.take k).flatMap f).length ≤ 64 := by
  have h1 := flat_len f h (xs.take k)
  have h2 := List.length_take_le k xs
  omega

set_option maxRecDepth 100000 in
set_option maxHeartbeats 4000000 in
theorem iFairTable_c (n : Int) (A : Option Addr) (c : Nat) (rs : List Res) (w : World) (ha : Games w A rs) (hm : rs.length ≤ 1048576) :
    Calls Try.prog 31 #[lgv n A rs.length c] w (GivesI 3 w (nums (fairF n rs))) := by
  obtain ⟨R, hR⟩ : ∃ R, fairF n rs = R := ⟨_, rfl⟩
  rw [hR]
  have hlc := fun W (h : Games W A rs) => iLeagueOk_c n A c rs W h hm
  obtain ⟨b0, b1⟩ := box2 w (.int .i64 n) (.slice A rs.length c) 29
  have hbw : Below w.heap.size w (w.alloc (.cells #[.int .i64 n, .slice A rs.length c] 29)) := (Below.refl _ _).alloc (Nat.le_refl _) _
  have hg0 := ha.keep (keep_of_below hbw)
  have hhc := fun (s : Int) W (h : Games W A rs) => iHeadTable_c n A c rs s W h hm
  unfold lgv at hlc hhc ⊢
  cases h1 : leagueOk n rs
  · have hR2 : R = [] := by rw [← hR, fairF, if_neg (by rw [h1]; decide)]
    subst hR2
    simp only [h1] at hlc
    have Ha := Lib.hid ha
    have Hlc := Lib.hid hlc
    have Hbw := Lib.hid hbw
    have Hg0 := Lib.hid hg0
    have H1 := Lib.hid h1
    have HR := Lib.hid hR
    have Hhc := Lib.hid hhc
    clear ha hlc hbw hg0 h1 hR hhc
    go_enter Try.func31, Try.ntmps31
    go_wp2_with fail
    refine (Hlc.out _ Hg0.out).mono ?_
    rintro e w1 ⟨rfl, hb⟩
    go_wp2
    go_ret
    exact ⟨none, 0, rfl, Own.nil .., Hbw.out.trans (hb.mono Hbw.out.size)⟩
  · have hL := league_of h1
    obtain ⟨n, rfl⟩ := Int.eq_ofNat_of_zero_le (show 0 ≤ n by have := hL.two; omega)
    have hn8 : n ≤ 8 := by have := hL.eight; omega
    have hn2 : 2 ≤ n := by have := hL.two; omega
    have hR2 : (levF (pointsF n rs)).flatMap (fairLv n rs) = R := by rw [← hR, fairF, if_pos h1, Int.toNat_natCast]
    have hpc := fun W (h : Games W A rs) => points_c n A c rs W h h1
    have hpl := pointsF_len hL
    simp only [h1] at hlc
    unfold lgv at hpc
    obtain ⟨m, hmm⟩ : ∃ m, rs.length = m := ⟨_, rfl⟩
    rw [hmm] at hlc hpc hbw hg0 b0 b1 hhc ⊢
    have HL := Lib.hid hL
    have Ha := Lib.hid ha
    have Hlc := Lib.hid hlc
    have Hbw := Lib.hid hbw
    have Hg0 := Lib.hid hg0
    have H1 := Lib.hid h1
    have HR := Lib.hid hR
    have HR2 := Lib.hid hR2
    have Hpc := Lib.hid hpc
    have Hmm := Lib.hid hmm
    have Hpl := Lib.hid hpl
    have Hhc := Lib.hid hhc
    clear ha hlc hbw hg0 h1 hR hR2 hpc hmm hpl hhc
    clear hL
    go_enter Try.func31, Try.ntmps31
    go_wp2_with fail
    refine (Hlc.out _ Hg0.out).mono ?_
    rintro e w1 ⟨rfl, hb⟩
    have c0 := keep_of_below hb _ _ b0
    have c1 := keep_of_below hb _ _ b1
    have Hb := Lib.hid (Hbw.out.trans (hb.mono Hbw.out.size))
    clear hb b0 b1
    go_wp2_with fail
    refine (Hpc.out _ (Ha.out.keep (keep_of_below Hb.out))).mono ?_
    rintro e w2 ⟨PA, pc, rfl, hpo, hb2⟩
    obtain ⟨P, hP⟩ : ∃ P, pointsF n rs = P := ⟨_, rfl⟩
    have hPl : P.length = n := by rw [← hP, Hpl.out]
    rw [hP] at hpo ⊢
    have d0 := keep_of_below hb2 _ _ c0
    have d1 := keep_of_below hb2 _ _ c1
    have Hb2 := Lib.hid (Hb.out.trans (hb2.mono Hb.out.size))
    have hlev := iLevelsOf_c PA pc P w2 hpo.ints (by omega) (by omega)
    obtain ⟨X, hX⟩ : ∃ X, levF P = X := ⟨_, rfl⟩
    rw [hX] at hlev
    rw [hPl] at hlev ⊢
    have HP := Lib.hid hP
    have HPl := Lib.hid hPl
    have HX := Lib.hid hX
    have Hlev := Lib.hid hlev
    clear hb2 hpo c0 c1 hP hPl hX hlev
    go_wp2_with fail
    refine Hlev.out.mono ?_
    rintro e w4 ⟨LA, lc, rfl, hrows, hb4⟩
    have e0 := keep_of_below hb4 _ _ d0
    have e1 := keep_of_below hb4 _ _ d1
    have Hb4 := Lib.hid (Hb2.out.trans (hb4.mono Hb2.out.size))
    obtain ⟨Z, hZ⟩ : ∃ Z, w4.heap.size = Z := ⟨_, rfl⟩
    have HZ := Lib.hid hZ
    have Hrows := Lib.hid hrows
    have hXs : X.length ≤ 8 := by have := levF_small P; rw [HX.out, HPl.out] at this; omega
    have hbx0 : w.heap.size < Z := by have := World.block_lt_of_cell? w4 _ e0; rw [HZ.out] at this; exact this
    have hxt : ∀ lv, lv ∈ X → setF lv = tiedOf P (lv.getD 0 0).toNat ∧ ∃ (a : Nat) (r : List Nat), lv = (a :: r).map (fun a : Nat => (a : Int)) ∧ (∀ b ∈ a :: r, b < n) := fun lv h => by
      have := set_tied (l := P) (lv := lv) (by rw [HX.out]; exact h)
      rwa [HPl.out] at this
    have hR3 : X.flatMap (fairLv n rs) = R := by have := HR2.out; rwa [HP.out, HX.out] at this
    obtain ⟨N, hN⟩ : ∃ N, X.length = N := ⟨_, rfl⟩
    rw [hN] at hXs ⊢
    have Hxt := Lib.hid hxt
    have HR3 := Lib.hid hR3
    have HN := Lib.hid hN
    clear hxt hR3 hN
    clear hb4 d0 d1 hZ hrows
    go_wp2
    go_loopw [3, 13] (fun v i wr => ∃ (k : Nat) (A1 : Option Addr) (c1 : Nat), k ≤ N ∧ i = .int .i64 k ∧ v = .slice A1 ((X.take k).flatMap (fairLv n rs)).length c1 ∧ Own 3 Z wr.heap.size wr A1 c1 ((nums ((X.take k).flatMap (fairLv n rs))).map (.int .i64)) ∧ Below Z w4 wr) (fun _ i _ => N - (intOf i).toNat)
    case atStart => exact ⟨0, none, 0, Nat.zero_le _, rfl, rfl, Own.nil .., Below.refl _ _⟩
    case round =>
      obtain ⟨k, A1, c1, hk, rfl, rfl, ho, hbz⟩ := hrel
      have hbr : Below w.heap.size w wr := Hb4.out.trans (hbz.mono (by omega))
      by_cases hlt : k < N
      · have hki : (k : Int) < (N : Int) := by omega
        obtain ⟨lv, hlv⟩ := some_of (l := X) (k := k) (by rw [HN.out]; exact hlt)
        obtain ⟨hst, a, r, hlve, hbn⟩ := Hxt.out lv (List.mem_of_getElem? hlv)
        have hrz : Rows wr LA X := Hrows.out.keep (by rw [← HZ.out] at hbz; exact keep_of_below hbz)
        obtain ⟨ld, a0, d0, rfl, hld, _, hch, hin⟩ := hrz k lv hlv
        have hll : lv.length = (a :: r).length := by rw [hlve, List.length_map]
        have hnu : lv = nums (a :: r) := hlve
        have hal : (a :: r).length ≤ 1048576 := by
          have := lev_len (l := P) (k := P.length) (j := k) (lv := lv) (by rw [levTo_end, HX.out]; exact hlv)
          rw [HPl.out] at this; omega
        have hset := fun W (h : Ints W a0 (nums (a :: r))) => setOf_c a0 d0 (a :: r) W h hal (fun b hb => by have := hbn b hb; omega)
        rw [← hll, ← hnu, hst] at hset
        obtain ⟨s, hs⟩ : ∃ s : Nat, tiedOf P (lv.getD 0 0).toNat = s := ⟨_, rfl⟩
        rw [hs] at hset
        have hhs := fun W h => Hhc.out (s : Int) W h
        obtain ⟨T, hT⟩ : ∃ T, headF n rs (s : Int) = T := ⟨_, rfl⟩
        have hT8 : T.length ≤ 8 := by rw [← hT]; exact headF_8 _ _ _
        rw [hT] at hhs
        have hfl : fairLv n rs lv = T := by rw [fairLv, HP.out, hs, hT]
        have hstep := flatMap_take (fairLv n rs) hlv
        rw [hfl] at hstep
        have hq := flat_take (fairLv n rs) (fun x => headF_8 _ _ _) (xs := X) (k := k) (by omega)
        obtain ⟨Q, hQ⟩ : ∃ Q, (X.take k).flatMap (fairLv n rs) = Q := ⟨_, rfl⟩
        rw [hQ] at ho hstep hq ⊢
        have hnT : (nums T).length = T.length := by rw [nums, List.length_map]
        have hql : ((nums Q).map (Value.int .i64)).length = Q.length := vals_len Q
        have htl : ((nums T).map (Value.int .i64)).length = T.length := vals_len T
        have hvs : (nums Q).map (Value.int .i64) ++ (nums T).map (Value.int .i64) = (nums ((X.take (k + 1)).flatMap (fairLv n rs))).map (.int .i64) := by rw [hstep, ← nums_append, List.map_append]
        have hlen : ((X.take (k + 1)).flatMap (fairLv n rs)).length = Q.length + T.length := by rw [hstep, List.length_append]
        have f0 := hbz.cell (p := ⟨w.heap.size, 0, none⟩) (by show w.heap.size < Z; exact hbx0) |>.trans e0
        have f1 := hbz.cell (p := ⟨w.heap.size, 1, none⟩) (by show w.heap.size < Z; exact hbx0) |>.trans e1
        have hks := hin.keep (keep_of_below (belowd wr))
        have ho0 := (ho.below (belowd wr)).wide (Nat.le_refl Z) (belowd wr).size
        have g0 := keep_of_below (belowd wr) _ _ f0
        have g1 := keep_of_below (belowd wr) _ _ f1
        have hbz0 : Below Z w4 wr.drew := hbz.trans ((belowd wr).mono (by have := hbz.size; have := HZ.out; omega))
        have hkeep : ∀ (W : World), Below Z w4 W → (W.cell? ⟨w.heap.size, 0, none⟩ = some (.int .i64 n) ∧ W.cell? ⟨w.heap.size, 1, none⟩ = some (.slice A m c) ∧ Below Z w4 W) := fun W h =>
          ⟨(h.cell (p := ⟨w.heap.size, 0, none⟩) (by show w.heap.size < Z; exact hbx0)).trans e0, (h.cell (p := ⟨w.heap.size, 1, none⟩) (by show w.heap.size < Z; exact hbx0)).trans e1, h⟩
        have hz0 : Z ≤ wr.drew.heap.size := by have := hbz0.size; have := HZ.out; omega
        have hgm : ∀ (W : World), Below Z w4 W → Games W A rs := fun W h => Ha.out.keep (keep_of_below (Hb4.out.trans (h.mono (by omega))))
        have Hset := Lib.hid hset
        have Hhs := Lib.hid hhs
        have HT := Lib.hid hT
        have Hfl := Lib.hid hfl
        have Hstep := Lib.hid hstep
        have HQ := Lib.hid hQ
        have HnT := Lib.hid hnT
        have Hql := Lib.hid hql
        have Htl := Lib.hid htl
        have Hvs := Lib.hid hvs
        have Hlen := Lib.hid hlen
        have Ho := Lib.hid ho
        have Ho0 := Lib.hid ho0
        have Hbz := Lib.hid hbz
        have Hbr := Lib.hid hbr
        have Hks := Lib.hid hks
        have Hs := Lib.hid hs
        have Hst := Lib.hid hst
        have Hlve := Lib.hid hlve
        have Hnu := Lib.hid hnu
        have Hll := Lib.hid hll
        have Hlv := Lib.hid hlv
        have Hrz := Lib.hid hrz
        have Hbn := Lib.hid hbn
        have Hgm := Lib.hid hgm
        clear hset hhs hT hfl hstep hQ hnT hql htl hvs hlen ho ho0 hbz hbr hks hs hst hlve hnu hll hlv hrz hbn hgm
        clear hin e0 e1 hal f0 f1
        go_wp2
        (go_region_held3 (fun W' => W'.cell? ⟨w.heap.size, 0, none⟩ = some (.int .i64 n) ∧ W'.cell? ⟨w.heap.size, 1, none⟩ = some (.slice A m c) ∧ Below Z w4 W')
          (first | assumption | exact hkeep _ (by assumption))
          (first
            | (go_at_call 70; refine (Hset.out _ Hks.out).mono ?_; rintro e v1 ⟨rfl, hq⟩; (have hbv := hq.below wr.drew.heap.size); (have ho1 := (Ho0.out.below hbv).wide (Nat.le_refl Z) hbv.size); (have hbz1 := hbz0.trans (hbv.mono hz0)); (have hz1 : Z ≤ v1.heap.size := Nat.le_trans hz0 hbv.size); have Ho1 := Lib.hid ho1; clear hq hbv ho1)
            | (go_at_call 29; refine (Hhs.out _ (Hgm.out _ hbz1)).mono ?_; rintro e w5 ⟨B, d, rfl, ho5, hb5⟩; rw [HnT.out]; (have ho6 := (Ho1.out.below hb5).wide (Nat.le_refl Z) hb5.size); (have hbz5 := hbz1.trans (hb5.mono hz1)); (have hz5 : Z ≤ w5.heap.size := Nat.le_trans hz1 hb5.size); (have Hsrc := Lib.hid ho5.cells); have Ho6 := Lib.hid ho6; clear ho5 hb5 ho6)
            | (refine step_appN rfl (.tmp 17) (.tmp 21) 33 rfl 3 (.int .i64 0) 8 Try.underlying33 info_int rfl Z A1 c1 ((nums Q).map (.int .i64)) Ho6.out hz5 B d ((nums T).map (.int .i64)) Hsrc.out (fun u hu => by obtain ⟨y, _, rfl⟩ := List.mem_map.1 hu; rfl) (by rw [Hql.out]; omega) (by rw [Htl.out]; omega) (by decide) Q.length T.length Hql.out.symm Htl.out.symm rfl rfl ?_; rw [Hvs.out]; intro g3 c3 w6 ho7 hg7 hl7 _; (have hbz6 := hbz5.grown hg7 hz5 (fun k hk => (Ho6.out.ownsRow.lt k (by rw [Hql.out]; exact hk)).1)); have Ho7 := Lib.hid ho7; clear ho7 hg7 hl7)))
        all_goals
          go_wp2
          go_roundw
          case rel => exact ⟨k + 1, g3, c3, by omega, by go_num, by rw [Hlen.out], Ho7.out, by assumption⟩
          case measure => simp [intOf]; omega
      · obtain rfl : k = N := by omega
        rw [List.take_of_length_le (by rw [HN.out]; exact Nat.le_refl _), HR3.out] at ho ⊢
        have hRl : (nums R).length = R.length := by rw [nums, List.length_map]
        have hoR := ho.wide (lo' := w.heap.size) (by omega) (Nat.le_refl _)
        have Ho := Lib.hid ho
        have HoR := Lib.hid hoR
        have Hbz := Lib.hid hbz
        have Hbr := Lib.hid hbr
        have HRl := Lib.hid hRl
        clear ho hoR hbz hbr hRl
        go_wp2
        go_ret
        exact ⟨A1, c1, by rw [HRl.out]; rfl, HoR.out, Hbr.out⟩
end Go.Proofs.Ytehlijpjcjegcaa
