/- Contracts: how often clubs follow each other (reference). -/
import Derived.Test.YthbpeolcmlkneaaCarry
import Derived.Test.YthbpeolcmlkneaaTurn
namespace Go.Proofs.Ythbpeolcmlkneaa
open Go.RowKit

set_option maxHeartbeats 4000000 in
theorem l18Table_c (m : Nat) (A : Option Addr) (c : Nat) (plan : List (List Int)) (w : World) (ha : Rows w A plan) (h1 : planOk m plan = true) (h2 : plan ≠ []) :
    Calls Try.prog 39 #[.int .i64 m, .slice A plan.length c] w (GivesII 3 38 w (carryR plan m plan.length 0 (zeros m))) := by
  generalize hR : carryR plan m plan.length 0 (zeros m) = R
  have HR := Lib.hid hR
  clear hR
  have hP := plan_of h1
  have hm10 : m ≤ 10 := by have := hP.ten; omega
  have hm2 : 2 ≤ m := by have := hP.two; omega
  obtain ⟨M, hM⟩ : ∃ M, plan.length = M := ⟨_, rfl⟩
  have hM36 : M ≤ 36 := by rw [← hM]; exact hP.len
  have hM1 : 1 ≤ M := by rw [← hM]; exact List.length_pos_iff.2 h2
  have HS : Hid (carryR plan m M 0 (zeros m) = R) := Lib.hid (by rw [← HR.out, hM])
  rw [hM]
  obtain ⟨L, hL⟩ : ∃ L, zeros m = L := ⟨_, rfl⟩
  have hLl : L.length = m := by rw [← hL]; simp [zeros]
  have hLa : ∀ k, k < m → L[k]? = some (List.replicate m 0) := fun k hk => by rw [← hL]; simp [zeros, hk]
  have hLt : Tab m 0 L := ⟨hLl, fun xs hx => by
    rw [← hL] at hx
    rw [zeros, List.mem_replicate] at hx
    rw [hx.2]
    exact ⟨by simp, fun v hv => by rw [List.mem_replicate] at hv; omega⟩⟩
  rw [hL] at HS
  have Ha := Lib.hid ha
  have HP := Lib.hid hP
  have H1 := Lib.hid h1
  have H2 := Lib.hid h2
  have HM := Lib.hid hM
  have HL := Lib.hid hL
  have HLl := Lib.hid hLl
  have HLa := Lib.hid hLa
  have HLt := Lib.hid hLt
  clear ha hP h1 h2 hM hL hLl hLa hLt
  clear HR
  go_enter Try.func39, Try.ntmps39
  go_wp2
  go_loopw [6, 5] (fun i v wr => ∃ (k : Nat) (B : Option Addr) (d : Nat), k ≤ m ∧ i = .int .i64 k ∧ v = .slice B k d ∧ Own2 3 38 w.heap.size wr.heap.size wr B d (L.take k) ∧ Below w.heap.size w wr) (fun i _ _ => m - (intOf i).toNat)
  case atStart => exact ⟨0, _, 0, Nat.zero_le _, rfl, rfl, ⟨[], out_empty 38 _ w (Nat.le_refl _), Inner.nil ..⟩, (Below.refl _ _).alloc (Nat.le_refl _) _⟩
  case round =>
    obtain ⟨k, B, d, hk, rfl, rfl, ho, hb⟩ := hrel
    have Ho := Lib.hid ho
    have Hb := Lib.hid hb
    clear ho hb
    by_cases hlt : k < m
    · have hl : (L.take k).length = k := by rw [List.length_take, HLl.out]; omega
      have hki : (k : Int) < (m : Int) := by omega
      have Hl := Lib.hid hl
      clear hl
      go_wp2_with (first
        | (refine wpList_mk wr rfl (.tmp 18) (.tmp 18) 38 rfl 3 (.int .i64 0) 8 Try.underlying38 info_int rfl m ?_ ?_ ?_ ?_ ?_; rfl; rfl; decide; omega; intro w3 homade hb3 hz3; have Ho2 := Lib.hid homade; have Hb3 := Lib.hid hb3; clear homade hb3)
        | (at_builtin; refine wpList_app2 rfl (.tmp 17) (.tmp 20) 22 rfl 3 38 Try.underlying22 info_ints info_rows_ne w.heap.size wr.heap.size B d (L.take k) (some ⟨wr.heap.size, 0, none⟩) m (List.replicate m 0) ?_ ?_ ?_ ?_ ?_ k m ?_ ?_ ?_ ?_ ?_; exact Ho.out.below Hb3.out; (simpa using Ho2.out); exact Hb.out.size; exact Nat.le_of_lt hz3; (rw [Hl.out]; omega); exact Hl.out.symm; (rw [List.length_replicate]); rfl; rfl; intro B2 d2 w4 ho' hb' hz'; have Ho' := Lib.hid ho'; have Hb' := Lib.hid hb'; clear ho' hb'))
      go_wp2
      go_roundw
      case rel => exact ⟨k + 1, B2, d2, by omega, by go_num, rfl, by rw [take_of (HLa.out k hlt)]; exact Ho'.out, (Hb.out.trans (Hb3.out.mono Hb.out.size)).trans Hb'.out⟩
      case measure => simp [intOf]; omega
    · obtain rfl : k = m := by omega
      have ho3 := Ho.out
      rw [← HLl.out, List.take_length] at ho3
      go_wp2
      obtain ⟨wo, hwo⟩ : ∃ wo : World, wo = wr := ⟨_, rfl⟩
      rw [← hwo] at ho3 Hb ⊢
      have Ht := Lib.hid ho3
      have hz1 := Hb.out.size
      clear ho3 hwo Ho wr
      go_loopw [24] (fun i wr => ∃ (r f : Nat) (t : List (List Int)), r + f = M ∧ i = .int .i64 r ∧ Tab k (10 * (r : Int)) t ∧ carryR plan k f r t = R ∧ Own2 3 38 w.heap.size wo.heap.size wr B d t ∧ Below w.heap.size w wr ∧ wo.heap.size ≤ wr.heap.size) (fun i _ => M - (intOf i).toNat)
      case atStart => exact ⟨0, M, L, by omega, rfl, by simpa using HLt.out, HS.out, Ht.out, Hb.out, Nat.le_refl _⟩
      case round =>
        clear Ht Hb
        obtain ⟨r, f, t, hrf, rfl, htab, hS, ho, hd, hzr⟩ := hrel
        have Htab := Lib.hid htab
        have HS := Lib.hid hS
        have Ho := Lib.hid ho
        have Hd := Lib.hid hd
        clear htab hS ho hd
        by_cases hlt2 : r < M
        · obtain ⟨f, rfl⟩ : ∃ f', f = f' + 1 := ⟨f - 1, by omega⟩
          obtain ⟨round, hx⟩ := some_of (l := plan) (k := r) (by rw [HM.out]; exact hlt2)
          obtain ⟨q, hq⟩ : ∃ q, (r + 1) % M = q := ⟨_, rfl⟩
          have hqM : q < M := by rw [← hq]; exact Nat.mod_lt _ (by omega)
          obtain ⟨next, hy⟩ := some_of (l := plan) (k := q) (by rw [HM.out]; exact hqM)
          obtain ⟨ad, ra, rc, rfl, _, _, hcaw, hia⟩ := Ha.out r round hx
          obtain ⟨ad', na, nc, e', _, _, hcbw, hib⟩ := Ha.out q next hy
          obtain rfl : ad = ad' := by injection e'
          have hca := keep_of_below Hd.out _ _ hcaw
          have hcb := keep_of_below Hd.out _ _ hcbw
          clear hcaw hcbw
          have hrl := HP.out.rlen hx
          have hnl := HP.out.rlen hy
          have hrl' : round.length = k := by omega
          have hnl' : next.length = k := by omega
          have w3 : IntKind.i64.wrap ((r : Int) + 1) = (r : Int) + 1 := IntWalk.i64_in _ (by omega)
          have w4 : ((r : Int) + 1).tmod (M : Int) = (q : Int) := by
            rw [Int.tmod_eq_emod_of_nonneg (by omega), ← hq, Int.natCast_emod, Int.natCast_add]; rfl
          have hMz : ((M : Int) == 0) = false := by rw [beq_eq_false_iff_ne]; omega
          have hMz2 : ¬ M = 0 := by omega
          have hqi : (q : Int) < (M : Int) := by omega
          have HS1 : Hid (carryR plan k f (r + 1) (carryK round next k 0 t) = R) := Lib.hid (by
            have := HS.out
            rw [carryR, HM.out, hq] at this
            rwa [show plan.getD r [] = round from by simp [hx], show plan.getD q [] = next from by simp [hy]] at this)
          have hca' : wr.cell? (ad.add r) = some (.slice ra k rc) := by rw [← hrl']; exact hca
          have hcb' : wr.cell? (ad.add q) = some (.slice na k nc) := by rw [← hnl']; exact hcb
          clear hca hcb e' hrl hnl
          have Hx := Lib.hid hx
          have Hy := Lib.hid hy
          have Hq := Lib.hid hq
          have Hia := Lib.hid hia
          have Hib := Lib.hid hib
          have Hrl' := Lib.hid hrl'
          have Hnl' := Lib.hid hnl'
          clear hx hy hq hia hib hrl' hnl'
          go_wp2
          clear hca' hcb'
          obtain ⟨wp, hwp⟩ : ∃ wp : World, wp = wr := ⟨_, rfl⟩
          rw [← hwp] at Ho Hd hzr ⊢
          clear hwp wr
          go_loopw [10] (fun i wr => ∃ (a g : Nat) (t : List (List Int)), a + g = k ∧ i = .int .i64 a ∧ Tab k (10 * (r : Int) + a) t ∧ carryR plan k f (r + 1) (carryK round next g a t) = R ∧ Own2 3 38 w.heap.size wo.heap.size wr B d t ∧ Below w.heap.size w wr ∧ wo.heap.size ≤ wr.heap.size) (fun i _ => k - (intOf i).toNat)
          case atStart => exact ⟨0, k, t, by omega, rfl, by simpa using Htab.out, HS1.out, Ho.out, Hd.out, hzr⟩
          case round =>
            clear HS1 Ho Hd Htab hzr HS
            obtain ⟨a, f', t, haf, rfl, htab, hS, ho, hd, hzr⟩ := hrel
            have Htab := Lib.hid htab
            have HS := Lib.hid hS
            have Ho := Lib.hid ho
            have Hd := Lib.hid hd
            clear htab hS ho hd
            by_cases hlt3 : a < k
            · obtain ⟨f', rfl⟩ : ∃ f'', f' = f'' + 1 := ⟨f' - 1, by omega⟩
              obtain ⟨v, hv⟩ := some_of (l := round) (k := a) (by rw [Hrl'.out]; exact hlt3)
              obtain ⟨v', hv'⟩ := some_of (l := next) (k := a) (by rw [Hnl'.out]; exact hlt3)
              have c1 := HP.out.cell Hx.out hv
              have c2 := HP.out.cell Hy.out hv'
              obtain ⟨i0, hi0⟩ := Int.eq_ofNat_of_zero_le c1.opp0
              obtain ⟨j0, hj0⟩ := Int.eq_ofNat_of_zero_le c2.opp0
              have hi0k : i0 < k := by have := c1.oppn; omega
              have hj0k : j0 < k := by have := c2.oppn; omega
              have HS1 : Hid (carryR plan k f (r + 1) (carryK round next f' (a + 1) (bump t i0 j0)) = R) := Lib.hid (by
                have := HS.out
                rw [carryK, show round.getD a 0 = v from by simp [hv], show next.getD a 0 = v' from by simp [hv'], hi0, hj0] at this
                exact this)
              obtain ⟨ra1, rfl, hcv⟩ := (Hia.out.keep (keep_of_below Hd.out)) a v hv
              obtain ⟨na1, rfl, hcv'⟩ := (Hib.out.keep (keep_of_below Hd.out)) a v' hv'
              have hop1 : ∀ W, Calls Try.prog 62 #[.int .i64 v] W (Quiet W (.int .i64 (i0 : Int))) := fun W => by
                have := l16Other_c v W (by have := c1.lo; omega) (by have := c1.hi; omega)
                rwa [hi0] at this
              have hop2 : ∀ W, Calls Try.prog 62 #[.int .i64 v'] W (Quiet W (.int .i64 (j0 : Int))) := fun W => by
                have := l16Other_c v' W (by have := c2.lo; omega) (by have := c2.hi; omega)
                rwa [hj0] at this
              obtain ⟨ad2, c', g, u, rfl, hc1, hc2, hf2, hu0, hu1, hO, hon⟩ := Ho.out.bump Htab.out hzr hi0k hj0k
              have htab2 := Htab.out.bump (by omega) (i := i0) (j := j0) hi0k
              have wu : IntKind.i64.wrap (u + 1) = u + 1 := IntWalk.i64_in _ (by omega)
              have hi0i : (i0 : Int) < (k : Int) := by omega
              have hj0i : (j0 : Int) < (k : Int) := by omega
              have hd2 : Below w.heap.size w (wr.setCell ⟨g, j0, none⟩ (.int .i64 (u + 1))) := Hd.out.trans (below_of_only hon (Nat.le_refl _) Hd.out.size)
              have hz2' : wo.heap.size ≤ (wr.setCell ⟨g, j0, none⟩ (.int .i64 (u + 1))).heap.size := by rw [setCell_size]; exact hzr
              have Hv := Lib.hid hv
              have Hv' := Lib.hid hv'
              have Hi0 := Lib.hid hi0
              have Hj0 := Lib.hid hj0
              have Hop1 := Lib.hid hop1
              have Hop2 := Lib.hid hop2
              have HO := Lib.hid hO
              have Hon := Lib.hid hon
              have Htab2 := Lib.hid htab2
              have Hd2 := Lib.hid hd2
              clear hv hv' hi0 hj0 hop1 hop2 hO hon htab2 hd2
              clear c1 c2
              go_wp2
              go_region_with (first
                | (go_at_call_of 62 v; refine (Hop1.out _).mono ?_; rintro e w' ⟨rfl, q, rfl⟩)
                | (go_at_call_of 62 v'; refine (Hop2.out _).mono ?_; rintro e w' ⟨rfl, q, rfl⟩))
              all_goals
                go_wp2_with fail
                go_roundw
                case rel => exact ⟨a + 1, f', bump t i0 j0, by omega, by go_num, by have h := Htab2.out; rwa [show 10 * (r : Int) + (a : Int) + 1 = 10 * (r : Int) + ((a + 1 : Nat) : Int) from by omega] at h, HS1.out, HO.out.below (below_draw_set _ _ _ _ _), Hd2.out.trans (below_draw_set _ _ _ _ _), hz2'⟩
                case measure => simp [intOf]; omega
            · obtain rfl : f' = 0 := by omega
              obtain rfl : a = k := by omega
              have HS1 : Hid (carryR plan a f (r + 1) t = R) := Lib.hid (by have := HS.out; rwa [carryK] at this)
              have htab2 : Tab a (10 * ((r + 1 : Nat) : Int)) t := ⟨Htab.out.len, fun xs hx => ⟨(Htab.out.row xs hx).1, fun v hv => by have := (Htab.out.row xs hx).2 v hv; omega⟩⟩
              have Htab2 := Lib.hid htab2
              clear htab2
              go_wp2
              go_roundw
              case rel => exact ⟨r + 1, f, t, by omega, by go_num, Htab2.out, HS1.out, Ho.out, Hd.out, hzr⟩
              case measure => simp [intOf]; omega
        · obtain rfl : f = 0 := by omega
          have HS1 : Hid (t = R) := Lib.hid (by have := HS.out; rwa [carryR] at this)
          go_wp2
          go_ret
          rw [← HS1.out]
          exact ⟨B, d, by rw [Htab.out.len]; rfl, Ho.out.wide (Nat.le_refl _) hzr, Hd.out⟩

set_option maxHeartbeats 1000000 in
theorem sCarryTable_c (n : Int) (A : Option Addr) (c : Nat) (plan : List (List Int)) (w : World) (ha : Rows w A plan) (hm : plan.length ≤ 1048576) :
    Calls Try.prog 11 #[.int .i64 n, .slice A plan.length c] w (GivesII 3 38 w (carryF n plan)) := by
  have Ha := Lib.hid ha
  clear ha
  cases h1 : planOk n plan
  · have hv : carryF n plan = [] := by rw [carryF, if_neg (by simp [h1])]
    rw [hv]
    have H1 := Lib.hid h1
    clear h1
    clear hv
    go_enter Try.func11, Try.ntmps11
    go_wp2_with fail
    refine (calls_v (sPlanOk_c _ _ _ _ _ Ha.out hm) (congrArg Value.bool H1.out)).mono ?_
    rintro e w1 ⟨rfl, hq⟩
    go_wp2
    go_ret
    exact ⟨none, 0, rfl, Own2.nil .., hq.below _⟩
  · have hP := plan_of h1
    obtain ⟨m, rfl⟩ := Int.eq_ofNat_of_zero_le (show 0 ≤ n by have := hP.two; omega)
    by_cases h2 : plan = []
    · subst h2
      have hv : carryF m [] = [] := by rw [carryF, if_neg (by simp)]
      rw [hv]
      have H1 := Lib.hid h1
      clear h1
      clear hv hP
      go_enter Try.func11, Try.ntmps11
      go_wp2_with fail
      refine (calls_v (sPlanOk_c _ _ _ _ _ Ha.out hm) (congrArg Value.bool H1.out)).mono ?_
      rintro e w1 ⟨rfl, hq⟩
      go_wp2
      go_ret
      exact ⟨none, 0, rfl, Own2.nil .., hq.below _⟩
    · have hv : carryF m plan = carryR plan m plan.length 0 (zeros m) := by rw [carryF, if_pos ⟨h1, h2⟩]; rfl
      rw [hv]
      have hpos : 1 ≤ plan.length := List.length_pos_iff.2 h2
      have hl36 := hP.len
      have H1 := Lib.hid h1
      have H2 := Lib.hid h2
      clear h1 h2
      clear hv hP
      go_enter Try.func11, Try.ntmps11
      go_wp2_with fail
      refine (calls_v (sPlanOk_c _ _ _ _ _ Ha.out hm) (congrArg Value.bool H1.out)).mono ?_
      rintro e w1 ⟨rfl, hq⟩
      have Hq := Lib.hid hq
      clear hq
      go_wp2_with fail
      refine (l18Table_c _ _ _ _ _ (Ha.out.keep Hq.out.keep) H1.out H2.out).mono ?_
      rintro e w2 ⟨B, d, rfl, ho, hb⟩
      have Ho := Lib.hid ho
      have Hb := Lib.hid hb
      clear ho hb
      go_wp2
      go_ret
      exact ⟨B, d, rfl, Ho.out.wide (Hq.out.below 0).size (Nat.le_refl _), (Hq.out.below _).trans (Hb.out.mono (Hq.out.below 0).size)⟩
theorem iCarryTable_any (n : Int) (A : Option Addr) (c : Nat) (plan : List (List Int)) (w : World) (ha : Rows w A plan) (hm : plan.length ≤ 1048576) :
    Calls Try.prog 13 #[.int .i64 n, .slice A plan.length c] w (GivesII 3 38 w (carryF n plan)) := by
  by_cases h : planOk n plan = true ∧ plan ≠ []
  · exact iCarryTable_c n A c plan w ha hm h.1 h.2
  · refine (iCarryTable_no n A c plan w ha hm h).mono ?_
    rintro e w' ⟨rfl, hb⟩
    rw [carryF, if_neg h]
    exact ⟨none, 0, rfl, Own2.nil .., hb⟩

/-! ### What the table holds -/
theorem carryK_tab {n : Nat} {b : Int} (hb : 0 ≤ b) {round next : List Int} : ∀ (f k : Nat) (t : List (List Int)), (∀ j, k ≤ j → j < k + f → (opp (round.getD j 0)).toNat < n) → Tab n b t → Tab n (b + f) (carryK round next f k t)
  | 0, k, t, _, ht => by simpa [carryK] using ht
  | f + 1, k, t, hk, ht => by
    have h1 := ht.bump hb (i := (opp (round.getD k 0)).toNat) (j := (opp (next.getD k 0)).toNat) (hk k (Nat.le_refl _) (by omega))
    have h2 := carryK_tab (b := b + 1) (next := next) (by omega) f (k + 1) _ (fun j h1 h2 => hk j (by omega) (by omega)) h1
    rw [carryK, show b + ((f + 1 : Nat) : Int) = b + 1 + f from by omega]
    exact h2
theorem carryR_tab {n : Nat} {plan : List (List Int)} (hP : Plan n plan) : ∀ (f r : Nat) (b : Int) (t : List (List Int)), 0 ≤ b → r + f = plan.length → Tab n b t → Tab n (b + n * f) (carryR plan n f r t)
  | 0, r, b, t, _, _, ht => by simpa [carryR] using ht
  | f + 1, r, b, t, hb, hr, ht => by
    obtain ⟨round, hx⟩ := some_of (l := plan) (k := r) (by omega)
    have hl := hP.rlen hx
    have h1 := carryK_tab hb (next := plan.getD ((r + 1) % plan.length) []) n 0 t (fun j _ hj => by
      obtain ⟨v, hv⟩ := some_of (l := round) (k := j) (by omega)
      have c1 := hP.cell hx hv
      rw [show (plan.getD r []).getD j 0 = v from by simp [hx, hv]]
      have := c1.opp0; have := c1.oppn; omega) ht
    have h2 := carryR_tab hP f (r + 1) (b + n) _ (by omega) (by omega) h1
    rw [carryR, show b + (n : Int) * ((f + 1 : Nat) : Int) = b + n + n * f from by rw [Int.natCast_add, Int.mul_add]; omega]
    exact h2
theorem zeros_tab (n : Nat) : Tab n 0 (zeros n) := ⟨by simp [zeros], fun xs hx => by
  rw [zeros, List.mem_replicate] at hx
  rw [hx.2]
  exact ⟨by simp, fun v hv => by rw [List.mem_replicate] at hv; omega⟩⟩
theorem Tab.mono {n : Nat} {b d : Int} {t : List (List Int)} (h : Tab n b t) (hbd : b ≤ d) : Tab n d t := ⟨h.len, fun xs hx => ⟨(h.row xs hx).1, fun v hv => by have := (h.row xs hx).2 v hv; omega⟩⟩
theorem carry_tab {n : Nat} {plan : List (List Int)} (h : planOk n plan = true) : Tab n 360 (carryR plan n plan.length 0 (zeros n)) := by
  have hP := plan_of h
  have h1 := carryR_tab hP plan.length 0 0 _ (Int.le_refl _) (by omega) (zeros_tab n)
  have h2 := hP.len
  have h3 := hP.ten
  refine h1.mono ?_
  have : (n : Int) * (plan.length : Int) ≤ 10 * 36 := Int.mul_le_mul (by omega) (by omega) (by omega) (by omega)
  omega
end Go.Proofs.Ythbpeolcmlkneaa
