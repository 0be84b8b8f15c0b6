/- Contracts: how often clubs follow each other (program and reference). -/
import Derived.Test.YthbpeolcmlkneaaRobin2
import Derived.Test.YthbpeolcmlkneaaBase3
import Derived.Deep.RegionHeld3
import Derived.Deep.RegionWith
namespace Go.Proofs.Ythbpeolcmlkneaa
open Go.RowKit

theorem ints_ne_rows : (3 : TypeId) ≠ 38 := by decide
theorem below_draw_set (B : Nat) (w : World) (n : Nat) (p : Addr) (v : Value) : Below B (w.setCell p v) ((w.drewN n).setCell p v) := ⟨rfl, rfl, rfl, Nat.le_refl _, fun _ _ => rfl⟩
def bump (t : List (List Int)) (i j : Nat) : List (List Int) := t.set i ((t.getD i []).set j ((t.getD i []).getD j 0 + 1))
/-- A square table of small numbers. -/
structure Tab (n : Nat) (b : Int) (t : List (List Int)) : Prop where
  len : t.length = n
  row : ∀ xs ∈ t, xs.length = n ∧ ∀ v ∈ xs, 0 ≤ v ∧ v ≤ b
theorem Tab.bump {n : Nat} {b : Int} {t : List (List Int)} (h : Tab n b t) (hb : 0 ≤ b) {i j : Nat} (hi : i < n) : Tab n (b + 1) (bump t i j) := by
  obtain ⟨xs, hx⟩ := some_of (l := t) (k := i) (by rw [h.len]; exact hi)
  obtain ⟨h1, h2⟩ := h.row xs (List.mem_of_getElem? hx)
  have e : t.getD i [] = xs := by simp [hx]
  refine ⟨by unfold Go.Proofs.Ythbpeolcmlkneaa.bump; rw [List.length_set]; exact h.len, fun ys hy => ?_⟩
  unfold Go.Proofs.Ythbpeolcmlkneaa.bump at hy
  rw [e] at hy
  rcases List.mem_or_eq_of_mem_set hy with hy | rfl
  · obtain ⟨k1, k2⟩ := h.row ys hy
    exact ⟨k1, fun v hv => by have := k2 v hv; omega⟩
  · refine ⟨by rw [List.length_set]; exact h1, fun v hv => ?_⟩
    rcases List.mem_or_eq_of_mem_set hv with hv | rfl
    · have := h2 v hv; omega
    · rw [List.getD_eq_getElem?_getD]
      cases hk : xs[j]? with
      | none => simp; omega
      | some u => have := h2 u (List.mem_of_getElem? hk); simp; omega
def carryK (round next : List Int) : Nat → Nat → List (List Int) → List (List Int)
  | 0, _, t => t
  | f + 1, k, t => carryK round next f (k + 1) (bump t (opp (round.getD k 0)).toNat (opp (next.getD k 0)).toNat)
def carryR (plan : List (List Int)) (n : Nat) : Nat → Nat → List (List Int) → List (List Int)
  | 0, _, t => t
  | f + 1, r, t => carryR plan n f (r + 1) (carryK (plan.getD r []) (plan.getD ((r + 1) % plan.length) []) n 0 t)
def zeros (n : Nat) : List (List Int) := List.replicate n (List.replicate n 0)
def carryF (n : Int) (plan : List (List Int)) : List (List Int) := if planOk n plan = true ∧ plan ≠ [] then carryR plan n.toNat plan.length 0 (zeros n.toNat) else []
/-- One number of the table made greater by one. -/
theorem Own2.bump {lo hi n : Nat} {w : World} {A : Option Addr} {c : Nat} {t : List (List Int)} {b : Int} (h : Own2 3 38 lo hi w A c t) (ht : Tab n b t) (hsz : hi ≤ w.heap.size) {i j : Nat} (hi' : i < n) (hj : j < n) :
    ∃ ad c' g u, A = some ad ∧ w.cell? (ad.add i) = some (.slice (some ⟨g, 0, none⟩) n c') ∧ w.cell? ⟨g, j, none⟩ = some (.int .i64 u) ∧ w.frozen? ⟨g, j, none⟩ = false ∧ 0 ≤ u ∧ u ≤ b ∧
      Own2 3 38 lo hi (w.setCell ⟨g, j, none⟩ (.int .i64 (u + 1))) A c (Go.Proofs.Ythbpeolcmlkneaa.bump t i j) ∧ Only lo hi w (w.setCell ⟨g, j, none⟩ (.int .i64 (u + 1))) := by
  obtain ⟨xs, hx⟩ := some_of (l := t) (k := i) (by rw [ht.len]; exact hi')
  obtain ⟨h1, h2⟩ := ht.row xs (List.mem_of_getElem? hx)
  obtain ⟨u, hu⟩ := some_of (l := xs) (k := j) (by rw [h1]; exact hj)
  obtain ⟨ad, a, c', g, rfl, hc, hown, hback⟩ := h.row ints_ne_rows hsz hx
  obtain ⟨g', rfl, hg1, hg2, hcu, hfu⟩ := ownr hown hu
  obtain rfl : g = g' := by omega
  have hb := h2 u (List.mem_of_getElem? hu)
  have hback' := hback (w.setCell ⟨g, j, none⟩ (.int .i64 (u + 1))) (xs.set j (u + 1)) (by rw [List.length_set]) ((Only.refl _ _ _).setCell (Nat.le_refl _) (Nat.lt_succ_self _) _) (hown.seti j (u + 1))
  have e : Go.Proofs.Ythbpeolcmlkneaa.bump t i j = t.set i (xs.set j (u + 1)) := by
    unfold Go.Proofs.Ythbpeolcmlkneaa.bump
    rw [show t.getD i [] = xs from by simp [hx], show xs.getD j 0 = u from by simp [hu]]
  rw [e]
  exact ⟨ad, c', g, u, rfl, by rw [← h1]; exact hc, hcu, hfu, hb.1, hb.2, hback'.1, hback'.2⟩

set_option maxHeartbeats 1000000 in
theorem iCarryTable_no (n : Int) (A : Option Addr) (c : Nat) (plan : List (List Int)) (w : World) (ha : Rows w A plan) (hm : plan.length ≤ 1048576) (h : ¬ (planOk n plan = true ∧ plan ≠ [])) :
    Calls Try.prog 13 #[.int .i64 n, .slice A plan.length c] w (Gives w (.slice none 0 0)) := by
  have Ha := Lib.hid ha
  clear ha
  cases h1 : planOk n plan
  · have H1 := Lib.hid h1
    clear h1
    go_enter Try.func13, Try.ntmps13
    go_wp2_with fail
    refine (calls_v (iPlanOk_c _ _ _ _ _ Ha.out hm) (congrArg Value.bool H1.out)).mono ?_
    rintro e w1 ⟨rfl, hq⟩
    go_wp2
    go_ret
    exact ⟨rfl, hq.below _⟩
  · obtain rfl : plan = [] := Classical.byContradiction fun e => h ⟨h1, e⟩
    have H1 := Lib.hid h1
    clear h1
    go_enter Try.func13, Try.ntmps13
    go_wp2_with fail
    refine (calls_v (iPlanOk_c _ _ _ _ _ Ha.out hm) (congrArg Value.bool H1.out)).mono ?_
    rintro e w1 ⟨rfl, hq⟩
    go_wp2
    go_ret
    exact ⟨rfl, hq.below _⟩

set_option maxHeartbeats 4000000 in
theorem iCarryTable_c (n : Int) (A : Option Addr) (c : Nat) (plan : List (List Int)) (w : World) (ha : Rows w A plan) (hm : plan.length ≤ 1048576) (h1 : planOk n plan = true) (h2 : plan ≠ []) :
    Calls Try.prog 13 #[.int .i64 n, .slice A plan.length c] w (GivesII 3 38 w (carryF n plan)) := by
  generalize hR : carryF n plan = R
  have HR := Lib.hid hR
  clear hR
  have hP := plan_of h1
  obtain ⟨m, rfl⟩ := Int.eq_ofNat_of_zero_le (show 0 ≤ n by have := hP.two; omega)
  have hm10 : m ≤ 10 := by have := hP.ten; omega
  have hm2 : 2 ≤ m := by have := hP.two; omega
  obtain ⟨M, hM⟩ : ∃ M, plan.length = M := ⟨_, rfl⟩
  have hM36 : M ≤ 36 := by rw [← hM]; exact hP.len
  have hM1 : 1 ≤ M := by rw [← hM]; exact List.length_pos_iff.2 h2
  have HS : Hid (carryR plan m M 0 (zeros m) = R) := Lib.hid (by rw [← HR.out, carryF, if_pos ⟨h1, h2⟩, hM]; rfl)
  have hpc := calls_v (iPlanOk_c m A c plan w ha hm) (congrArg Value.bool h1)
  rw [hM] at hpc ⊢
  obtain ⟨L, hL⟩ : ∃ L, zeros m = L := ⟨_, rfl⟩
  have hLl : L.length = m := by rw [← hL]; simp [zeros]
  have hLa : ∀ k, k < m → L[k]? = some (List.replicate m 0) := fun k hk => by rw [← hL]; simp [zeros, hk]
  have hLt : Tab m 0 L := ⟨hLl, fun xs hx => by
    rw [← hL] at hx
    rw [zeros, List.mem_replicate] at hx
    rw [hx.2]
    exact ⟨by simp, fun v hv => by rw [List.mem_replicate] at hv; omega⟩⟩
  rw [hL] at HS
  have Ha := Lib.hid ha
  have HP := Lib.hid hP
  have H1 := Lib.hid h1
  have H2 := Lib.hid h2
  have HM := Lib.hid hM
  have Hpc := Lib.hid hpc
  have HL := Lib.hid hL
  have HLl := Lib.hid hLl
  have HLa := Lib.hid hLa
  have HLt := Lib.hid hLt
  clear ha hP h1 h2 hM hpc hL hLl hLa hLt
  go_enter Try.func13, Try.ntmps13
  go_wp2_with fail
  refine Hpc.out.mono ?_
  rintro e w1 ⟨rfl, hq⟩
  have Hb1 := Lib.hid (hq.below w.heap.size)
  have hz1 : w.heap.size ≤ w1.heap.size := Hb1.out.size
  clear hq
  go_wp2_with (refine wpList_mk w1 rfl (.tmp 20) (.tmp 20) 22 rfl 38 (.slice none 0 0) 24 Try.underlying22 info_ints rfl m ?_ ?_ ?_ ?_ ?_; rfl; rfl; decide; omega; intro w2 homade hb2 hz2)
  have Hb2 := Lib.hid (Hb1.out.trans (hb2.mono Hb1.out.size))
  have Ho0 := Lib.hid homade
  clear homade hb2
  go_wp2
  go_loopw [24] (fun i wr => ∃ (k : Nat) (hs : List (Option Addr × Nat)), k ≤ m ∧ i = .int .i64 k ∧ hs.length = k ∧ Own 38 w1.heap.size w2.heap.size wr (some ⟨w1.heap.size, 0, none⟩) m (List.zipWith hdr hs (L.take k) ++ List.replicate (m - k) (.slice none 0 0)) ∧ Inner 3 w2.heap.size wr.heap.size wr hs (L.take k) ∧ Below w.heap.size w wr ∧ w2.heap.size ≤ wr.heap.size) (fun i _ => m - (intOf i).toNat)
  case atStart => exact ⟨0, [], Nat.zero_le _, rfl, rfl, by simpa using Ho0.out, Inner.nil .., Hb2.out, Nat.le_refl _⟩
  case round =>
    obtain ⟨k, hs, hk, rfl, hl, ho, hi, hd, hz⟩ := hrel
    have Ho := Lib.hid ho
    have Hi := Lib.hid hi
    have Hd := Lib.hid hd
    have Hl := Lib.hid hl
    clear ho hi hd hl
    by_cases hlt : k < m
    · have hZ := outer_at (n := m) (z := Value.slice none 0 0) Hl.out (by rw [HLl.out]; exact hlt) hlt
      have hki : (k : Int) < (m : Int) := by omega
      go_wp2_with (refine wpList_mk wr rfl (.tmp 29) (.tmp 29) 38 rfl 3 (.int .i64 0) 8 Try.underlying38 info_int rfl m ?_ ?_ ?_ ?_ ?_; rfl; rfl; decide; omega; intro w3 homade hb3 hz3; (have hO2 := Ho.out.below (hb3.mono hz)); (obtain ⟨g, eg, _, _, hco2, hfo2⟩ := hO2.at_ hZ); (obtain rfl : w1.heap.size = g := by injection eg with eg; injection eg); have HO2 := Lib.hid hO2; have Hmd := Lib.hid homade; have Hb3 := Lib.hid hb3; clear hO2 homade hb3 eg)
      have hO3 := HO2.out.set_ k (.slice (some ⟨wr.heap.size, 0, none⟩) m m)
      have hos := outer_step (hs := hs) (xss := L) (k := k) (n := m) (a := some ⟨wr.heap.size, 0, none⟩) (c' := m) (xs := List.replicate m 0) (z := .slice none 0 0) Hl.out (HLa.out k hlt) hlt
      rw [List.length_replicate] at hos
      rw [hos] at hO3
      have hon : Only w1.heap.size w2.heap.size w3 (w3.setCell ⟨w1.heap.size, k, none⟩ (.slice (some ⟨wr.heap.size, 0, none⟩) m m)) := (Only.refl _ _ _).setCell (Nat.le_refl _) hz2 _
      have hrow : Own 3 wr.heap.size w3.heap.size w3 (some ⟨wr.heap.size, 0, none⟩) m ((List.replicate m (0 : Int)).map (.int .i64)) := by simpa using Hmd.out
      have hi3 := (Hi.out.below Hb3.out).snoc hrow hz (Nat.le_of_lt hz3)
      rw [← take_of (HLa.out k hlt)] at hi3
      have hi4 := (hi3.only hon (Nat.le_refl _) (.inr (Nat.le_refl _))).wide (Nat.le_refl _) hon.size
      have hd3 := (Hd.out.trans (Hb3.out.mono Hd.out.size)).setCell (p := ⟨w1.heap.size, k, none⟩) hz1 (.slice (some ⟨wr.heap.size, 0, none⟩) m m)
      have hz4 : w2.heap.size ≤ (w3.setCell ⟨w1.heap.size, k, none⟩ (.slice (some ⟨wr.heap.size, 0, none⟩) m m)).heap.size := by rw [setCell_size]; omega
      have hl4 : (hs ++ [(some (⟨wr.heap.size, 0, none⟩ : Addr), m)]).length = k + 1 := by rw [List.length_append, Hl.out]; rfl
      have HO3 := Lib.hid hO3
      have Hi4 := Lib.hid hi4
      have Hd3 := Lib.hid hd3
      have Hl4 := Lib.hid hl4
      have HZ := Lib.hid hZ
      clear hO3 hi4 hd3 hl4 hZ
      clear hon hrow hi3 hos
      go_wp2
      go_roundw
      case rel => exact ⟨k + 1, _, by omega, by go_num, Hl4.out, HO3.out, Hi4.out, Hd3.out, hz4⟩
      case measure => simp [intOf]; omega
    · obtain rfl : k = m := by omega
      have ho3 := Ho.out
      rw [Nat.sub_self, List.replicate_zero, List.append_nil, ← HLl.out, List.take_length] at ho3
      have hi3 := Hi.out
      rw [← HLl.out, List.take_length] at hi3
      go_wp2
      obtain ⟨wo, hwo⟩ : ∃ wo : World, wo = wr := ⟨_, rfl⟩
      rw [← hwo] at ho3 hi3 Hd hz ⊢
      have Ht := Lib.hid (⟨hs, ho3.wide (Nat.le_refl _) hz, hi3.wide (by omega) (Nat.le_refl _)⟩ : Own2 3 38 w1.heap.size wo.heap.size wo (some ⟨w1.heap.size, 0, none⟩) L.length L)
      rw [HLl.out] at Ht
      clear ho3 hi3 hwo Ho Hi wr
      go_loopw [35] (fun i wr => ∃ (r f : Nat) (t : List (List Int)), r + f = M ∧ i = .int .i64 r ∧ Tab k (10 * (r : Int)) t ∧ carryR plan k f r t = R ∧ Own2 3 38 w1.heap.size wo.heap.size wr (some ⟨w1.heap.size, 0, none⟩) k t ∧ Below w.heap.size w wr ∧ wo.heap.size ≤ wr.heap.size) (fun i _ => M - (intOf i).toNat)
      case atStart => exact ⟨0, M, L, by omega, rfl, by simpa using HLt.out, HS.out, Ht.out, Hd.out, Nat.le_refl _⟩
      case round =>
        clear Ht Hd
        obtain ⟨r, f, t, hrf, rfl, htab, hS, ho, hd, hzr⟩ := hrel
        have Htab := Lib.hid htab
        have HS := Lib.hid hS
        have Ho := Lib.hid ho
        have Hd := Lib.hid hd
        clear htab hS ho hd
        by_cases hlt2 : r < M
        · obtain ⟨f, rfl⟩ : ∃ f', f = f' + 1 := ⟨f - 1, by omega⟩
          obtain ⟨round, hx⟩ := some_of (l := plan) (k := r) (by rw [HM.out]; exact hlt2)
          obtain ⟨q, hq⟩ : ∃ q, (r + 1) % M = q := ⟨_, rfl⟩
          have hqM : q < M := by rw [← hq]; exact Nat.mod_lt _ (by omega)
          obtain ⟨next, hy⟩ := some_of (l := plan) (k := q) (by rw [HM.out]; exact hqM)
          obtain ⟨ad, ra, rc, rfl, _, _, hcaw, hia⟩ := Ha.out r round hx
          obtain ⟨ad', na, nc, e', _, _, hcbw, hib⟩ := Ha.out q next hy
          obtain rfl : ad = ad' := by injection e'
          have hca := keep_of_below Hd.out _ _ hcaw
          have hcb := keep_of_below Hd.out _ _ hcbw
          clear hcaw hcbw
          have hrl := HP.out.rlen hx
          have hnl := HP.out.rlen hy
          have hrl' : round.length = k := by omega
          have hnl' : next.length = k := by omega
          have w3 : IntKind.i64.wrap ((r : Int) + 1) = (r : Int) + 1 := IntWalk.i64_in _ (by omega)
          have w4 : ((r : Int) + 1).tmod (M : Int) = (q : Int) := by
            rw [Int.tmod_eq_emod_of_nonneg (by omega), ← hq, Int.natCast_emod, Int.natCast_add]; rfl
          have hMz : ((M : Int) == 0) = false := by rw [beq_eq_false_iff_ne]; omega
          have hMz2 : ¬ M = 0 := by omega
          have hqi : (q : Int) < (M : Int) := by omega
          have HS1 : Hid (carryR plan k f (r + 1) (carryK round next k 0 t) = R) := Lib.hid (by
            have := HS.out
            rw [carryR, HM.out, hq] at this
            rwa [show plan.getD r [] = round from by simp [hx], show plan.getD q [] = next from by simp [hy]] at this)
          have hca' : wr.cell? (ad.add r) = some (.slice ra k rc) := by rw [← hrl']; exact hca
          have hcb' : wr.cell? (ad.add q) = some (.slice na k nc) := by rw [← hnl']; exact hcb
          clear hca hcb e' hrl hnl
          have Hx := Lib.hid hx
          have Hy := Lib.hid hy
          have Hq := Lib.hid hq
          have Hia := Lib.hid hia
          have Hib := Lib.hid hib
          have Hrl' := Lib.hid hrl'
          have Hnl' := Lib.hid hnl'
          clear hx hy hq hia hib hrl' hnl'
          go_wp2
          clear hca' hcb'
          obtain ⟨wp, hwp⟩ : ∃ wp : World, wp = wr := ⟨_, rfl⟩
          rw [← hwp] at Ho Hd hzr ⊢
          clear hwp wr
          go_loopw [49] (fun i wr => ∃ (a g : Nat) (t : List (List Int)), a + g = k ∧ i = .int .i64 a ∧ Tab k (10 * (r : Int) + a) t ∧ carryR plan k f (r + 1) (carryK round next g a t) = R ∧ Own2 3 38 w1.heap.size wo.heap.size wr (some ⟨w1.heap.size, 0, none⟩) k t ∧ Below w.heap.size w wr ∧ wo.heap.size ≤ wr.heap.size) (fun i _ => k - (intOf i).toNat)
          case atStart => exact ⟨0, k, t, by omega, rfl, by simpa using Htab.out, HS1.out, Ho.out, Hd.out, hzr⟩
          case round =>
            clear HS1 Ho Hd Htab hzr HS
            obtain ⟨a, f', t, haf, rfl, htab, hS, ho, hd, hzr⟩ := hrel
            have Htab := Lib.hid htab
            have HS := Lib.hid hS
            have Ho := Lib.hid ho
            have Hd := Lib.hid hd
            clear htab hS ho hd
            by_cases hlt3 : a < k
            · obtain ⟨f', rfl⟩ : ∃ f'', f' = f'' + 1 := ⟨f' - 1, by omega⟩
              obtain ⟨v, hv⟩ := some_of (l := round) (k := a) (by rw [Hrl'.out]; exact hlt3)
              obtain ⟨v', hv'⟩ := some_of (l := next) (k := a) (by rw [Hnl'.out]; exact hlt3)
              have c1 := HP.out.cell Hx.out hv
              have c2 := HP.out.cell Hy.out hv'
              obtain ⟨i0, hi0⟩ := Int.eq_ofNat_of_zero_le c1.opp0
              obtain ⟨j0, hj0⟩ := Int.eq_ofNat_of_zero_le c2.opp0
              have hi0k : i0 < k := by have := c1.oppn; omega
              have hj0k : j0 < k := by have := c2.oppn; omega
              have HS1 : Hid (carryR plan k f (r + 1) (carryK round next f' (a + 1) (bump t i0 j0)) = R) := Lib.hid (by
                have := HS.out
                rw [carryK, show round.getD a 0 = v from by simp [hv], show next.getD a 0 = v' from by simp [hv'], hi0, hj0] at this
                exact this)
              have hop1 : ∀ W, Dr wr W → Calls Try.prog 41 #[.slice ra k rc, .int .i64 (a : Int)] W (Quiet W (.int .i64 (i0 : Int))) := fun W hW => by
                have := opponent_c ra rc round (a : Int) v W ((Hia.out.keep (keep_of_below Hd.out)).keep hW.keep) (by simpa using hv) (by omega) (by have := c1.lo; omega) (by have := c1.hi; omega)
                rwa [hi0, Hrl'.out] at this
              have hop2 : ∀ W, Dr wr W → Calls Try.prog 41 #[.slice na k nc, .int .i64 (a : Int)] W (Quiet W (.int .i64 (j0 : Int))) := fun W hW => by
                have := opponent_c na nc next (a : Int) v' W ((Hib.out.keep (keep_of_below Hd.out)).keep hW.keep) (by simpa using hv') (by omega) (by have := c2.lo; omega) (by have := c2.hi; omega)
                rwa [hj0, Hnl'.out] at this
              obtain ⟨ad2, c', g, u, e2, hc1, hc2, hf2, hu0, hu1, hO, hon⟩ := Ho.out.bump Htab.out hzr hi0k hj0k
              obtain rfl : (⟨w1.heap.size, 0, none⟩ : Addr) = ad2 := by injection e2
              rw [addr_zero_add] at hc1
              have htab2 := Htab.out.bump (by omega) (i := i0) (j := j0) hi0k
              have wu : IntKind.i64.wrap (u + 1) = u + 1 := IntWalk.i64_in _ (by omega)
              have hi0i : (i0 : Int) < (k : Int) := by omega
              have hj0i : (j0 : Int) < (k : Int) := by omega
              have hdr1 : Dr wr wr.drew := ⟨1, rfl⟩
              have hdrN : ∀ q, Dr wr (wr.drewN q) := fun q => ⟨q, rfl⟩
              have hd2 : Below w.heap.size w (wr.setCell ⟨g, j0, none⟩ (.int .i64 (u + 1))) := Hd.out.trans (below_of_only hon hz1 Hd.out.size)
              have hz2' : wo.heap.size ≤ (wr.setCell ⟨g, j0, none⟩ (.int .i64 (u + 1))).heap.size := by rw [setCell_size]; exact hzr
              have Hv := Lib.hid hv
              have Hv' := Lib.hid hv'
              have Hi0 := Lib.hid hi0
              have Hj0 := Lib.hid hj0
              have Hop1 := Lib.hid hop1
              have Hop2 := Lib.hid hop2
              have HO := Lib.hid hO
              have Hon := Lib.hid hon
              have Htab2 := Lib.hid htab2
              have Hd2 := Lib.hid hd2
              clear hv hv' hi0 hj0 hop1 hop2 hO hon htab2 hd2
              clear c1 c2 e2
              go_wp2
              go_region_with (first
                | (go_at_call_of 41 ra; refine (Hop1.out _ ?_).mono ?_; (first | exact hdr1 | exact hdrN _); rintro e w' ⟨rfl, q, rfl⟩)
                | (go_at_call_of 41 na; refine (Hop2.out _ ?_).mono ?_; (first | exact hdr1 | exact hdrN _); rintro e w' ⟨rfl, q, rfl⟩))
              all_goals
                go_wp2_with fail
                go_roundw
                case rel => exact ⟨a + 1, f', bump t i0 j0, by omega, by go_num, by have h := Htab2.out; rwa [show 10 * (r : Int) + (a : Int) + 1 = 10 * (r : Int) + ((a + 1 : Nat) : Int) from by omega] at h, HS1.out, HO.out.below (below_draw_set _ _ _ _ _), Hd2.out.trans (below_draw_set _ _ _ _ _), hz2'⟩
                case measure => simp [intOf]; omega
            · obtain rfl : f' = 0 := by omega
              obtain rfl : a = k := by omega
              have HS1 : Hid (carryR plan a f (r + 1) t = R) := Lib.hid (by have := HS.out; rwa [carryK] at this)
              have htab2 : Tab a (10 * ((r + 1 : Nat) : Int)) t := ⟨Htab.out.len, fun xs hx => ⟨(Htab.out.row xs hx).1, fun v hv => by have := (Htab.out.row xs hx).2 v hv; omega⟩⟩
              have Htab2 := Lib.hid htab2
              clear htab2
              go_wp2
              go_roundw
              case rel => exact ⟨r + 1, f, t, by omega, by go_num, Htab2.out, HS1.out, Ho.out, Hd.out, hzr⟩
              case measure => simp [intOf]; omega
        · obtain rfl : f = 0 := by omega
          have HS1 : Hid (t = R) := Lib.hid (by have := HS.out; rwa [carryR] at this)
          go_wp2
          go_ret
          rw [← HS1.out]
          exact ⟨some ⟨w1.heap.size, 0, none⟩, k, by rw [Htab.out.len]; rfl, Ho.out.wide hz1 hzr, Hd.out⟩
end Go.Proofs.Ythbpeolcmlkneaa
