/- Contracts: whether all clubs follow each other equally often; how often one follows another (program and reference). -/
import Derived.Test.YthbpeolcmlkneaaCarryV
namespace Go.Proofs.Ythbpeolcmlkneaa
open Go.RowKit

def balL (u : Int) (a : Nat) : Nat → List Int → Bool
  | _, [] => true
  | b, x :: r => if (a ≠ b ∧ x ≠ u) then false else balL u a (b + 1) r
def balT (u : Int) : Nat → List (List Int) → Bool
  | _, [] => true
  | a, xs :: r => if balL u a 0 xs then balT u (a + 1) r else false
def two (t : List (List Int)) : Int := (t.getD 0 []).getD 1 0
def balF (n : Int) (plan : List (List Int)) : Bool := if planOk n plan = true ∧ plan ≠ [] then balT (two (carryR plan n.toNat plan.length 0 (zeros n.toNat))) 0 (carryR plan n.toNat plan.length 0 (zeros n.toNat)) else false
theorem balL_skip {u x : Int} {a b : Nat} {r : List Int} (h : ¬ (a ≠ b ∧ x ≠ u)) : balL u a b (x :: r) = balL u a (b + 1) r := by rw [balL, if_neg h]
theorem balL_hit {u x : Int} {a b : Nat} {r : List Int} (h1 : ¬ a = b) (h2 : ¬ x = u) : balL u a b (x :: r) = false := by rw [balL, if_pos ⟨h1, h2⟩]
theorem balL_end (u : Int) (a b : Nat) : balL u a b [] = true := rfl
theorem two_at {m : Nat} {b : Int} {w : World} {ad : Addr} {t : List (List Int)} (ht : Tab m b t) (hm : 2 ≤ m) (hr : Rows w (some ad) t) :
    ∃ xs g c, t[0]? = some xs ∧ xs[1]? = some (two t) ∧ w.cell? ad = some (.slice (some g) m c) ∧ w.cell? ⟨g.block, g.off + 1, none⟩ = some (.int .i64 (two t)) ∧ m ≤ c := by
  obtain ⟨xs, hx⟩ := some_of (l := t) (k := 0) (by rw [ht.len]; omega)
  obtain ⟨h1, h2⟩ := ht.row xs (List.mem_of_getElem? hx)
  obtain ⟨u, hu⟩ := some_of (l := xs) (k := 1) (by omega)
  obtain ⟨ad', a, c, e, hl, _, hc, hi⟩ := hr 0 xs hx
  injection e with e; subst e
  obtain ⟨g, rfl, hg⟩ := hi 1 u hu
  have e2 : two t = u := by simp [two, hx, hu]
  rw [e2]
  rw [Addr.add_zero'] at hc
  exact ⟨xs, g, c, hx, hu, by rw [← h1]; exact hc, by simpa [Addr.add] using hg, by omega⟩

set_option maxHeartbeats 4000000 in
theorem iIsBalancedPlan_c (n : Int) (A : Option Addr) (c : Nat) (plan : List (List Int)) (w : World) (ha : Rows w A plan) (hm : plan.length ≤ 1048576) :
    Calls Try.prog 20 #[.int .i64 n, .slice A plan.length c] w (Gives w (.bool (balF n plan))) := by
  generalize hR : balF n plan = R
  have HR := Lib.hid hR
  clear hR
  have hnil := fun (W : World) (a : Option Addr) (n c : Nat) => Go.run_neq_slice_nil_any (P := Try.prog) W 22 38 a n c 0 0 Try.underlying22
  have Ha := Lib.hid ha
  clear ha
  by_cases h : planOk n plan = true ∧ plan ≠ []
  · obtain ⟨h1, h2⟩ := h
    have hP := plan_of h1
    obtain ⟨m, rfl⟩ := Int.eq_ofNat_of_zero_le (show 0 ≤ n by have := hP.two; omega)
    have hm10 : m ≤ 10 := by have := hP.ten; omega
    have hm2 : 2 ≤ m := by have := hP.two; omega
    have hT := carry_tab h1
    obtain ⟨t, ht⟩ : ∃ t, carryR plan m plan.length 0 (zeros m) = t := ⟨_, rfl⟩
    obtain ⟨u, hu⟩ : ∃ u, two t = u := ⟨_, rfl⟩
    have HS : Hid (balT u 0 t = R) := Lib.hid (by rw [← HR.out, balF, if_pos ⟨h1, h2⟩, ← hu, ← ht]; rfl)
    have hct := iCarryTable_t m A c plan w Ha.out hm h1 h2
    rw [ht] at hct hT
    have H1 := Lib.hid h1
    have H2 := Lib.hid h2
    have HP := Lib.hid hP
    have HT := Lib.hid hT
    have Ht := Lib.hid ht
    have Hct := Lib.hid hct
    have Hu := Lib.hid hu
    clear h1 h2 hP hT ht hct hu
    clear HR
    go_enter Try.func20, Try.ntmps20
    go_wp2_with fail
    refine (Hct.out).mono ?_
    rintro e w1 ⟨ad, c1, rfl, hr1, hb1⟩
    obtain ⟨z, g, gc, hz1, hz2, hcz, hcu, hzc⟩ := two_at HT.out hm2 hr1
    rw [Hu.out] at hcu hz2
    have Hr1 := Lib.hid hr1
    have Hb1 := Lib.hid hb1
    have Hcz := Lib.hid hcz
    have Hcu := Lib.hid hcu
    have Hz1 := Lib.hid hz1
    have Hz2 := Lib.hid hz2
    clear hr1 hb1 hcz hcu hz1 hz2
    go_wp2
    go_loopw [15] (fun i wr => ∃ k : Nat, k ≤ m ∧ i = .int .i64 k ∧ balT u k (t.drop k) = R ∧ Dr w1 wr) (fun i _ => m - (intOf i).toNat)
    case atStart => exact ⟨0, Nat.zero_le _, rfl, HS.out, Dr.refl _⟩
    case round =>
      obtain ⟨k, hk, rfl, hS, hd⟩ := hrel
      have HS := Lib.hid hS
      have Hd := Lib.hid hd
      clear hS hd
      by_cases hlt : k < m
      · obtain ⟨xs, hx⟩ := some_of (l := t) (k := k) (by rw [HT.out.len]; exact hlt)
        obtain ⟨hxl, hxb⟩ := HT.out.row xs (List.mem_of_getElem? hx)
        obtain ⟨ad', a, c', e', _, _, hca, hia⟩ := Hr1.out k xs hx
        obtain rfl : ad = ad' := by injection e'
        rw [hxl] at hca
        have hki : (k : Int) < (m : Int) := by omega
        have HS1 : Hid ((if balL u k 0 xs = true then balT u (k + 1) (t.drop (k + 1)) else false) = R) := Lib.hid (by have := HS.out; rwa [drop_of hx, balT] at this)
        have hcaw := Hd.out.keep _ _ hca
        have Hca := Lib.hid hca
        have Hx := Lib.hid hx
        have Hxl := Lib.hid hxl
        have Hia := Lib.hid hia
        clear hx hxl hia
        clear e' HS hxb hca
        go_wp2
        clear hcaw
        go_loopw [22] (fun i wr => ∃ j : Nat, j ≤ m ∧ i = .int .i64 j ∧ (if balL u k j (xs.drop j) = true then balT u (k + 1) (t.drop (k + 1)) else false) = R ∧ Dr w1 wr) (fun i _ => m - (intOf i).toNat)
        case atStart => exact ⟨0, Nat.zero_le _, rfl, HS1.out, Hd.out⟩
        case round =>
          clear HS1 Hd
          obtain ⟨j, hj, rfl, hS, hdr⟩ := hrel
          have HS := Lib.hid hS
          have Hdr := Lib.hid hdr
          clear hS hdr
          by_cases hlt2 : j < m
          · have hji : (j : Int) < (m : Int) := by omega
            obtain ⟨v, hv⟩ := some_of (l := xs) (k := j) (by rw [Hxl.out]; exact hlt2)
            obtain ⟨bd, rfl, hcv⟩ := (Hia.out.keep Hdr.out.keep) j v hv
            have hcz := Hdr.out.keep _ _ Hcz.out
            have hcu := Hdr.out.keep _ _ Hcu.out
            have hca2 := Hdr.out.keep _ _ Hca.out
            have Hv := Lib.hid hv
            clear hv
            by_cases hab : k = j
            · have HS1 : Hid ((if balL u k (j + 1) (xs.drop (j + 1)) = true then balT u (k + 1) (t.drop (k + 1)) else false) = R) := Lib.hid (by have := HS.out; rwa [drop_of Hv.out, balL_skip (by simp [hab])] at this)
              have e1 : ((k : Int) != (j : Int)) = false := by simp [hab]
              have Hab := Lib.hid hab
              clear hab
              clear HS
              go_wp2
              go_roundw
              case rel => exact ⟨j + 1, by omega, by go_num, HS1.out, Hdr.out⟩
              case measure => simp [intOf]; omega
            · have e1 : ((k : Int) != (j : Int)) = true := by simp; omega
              by_cases hvu : v = u
              · have HS1 : Hid ((if balL u k (j + 1) (xs.drop (j + 1)) = true then balT u (k + 1) (t.drop (k + 1)) else false) = R) := Lib.hid (by have := HS.out; rwa [drop_of Hv.out, balL_skip (by simp [hvu])] at this)
                have e2 : (v != u) = false := by simp [hvu]
                have Hab := Lib.hid hab
                have Hvu := Lib.hid hvu
                clear hab hvu
                clear HS
                go_wp2
                go_roundw
                case rel => exact ⟨j + 1, by omega, by go_num, HS1.out, Hdr.out⟩
                case measure => simp [intOf]; omega
              · have HS1 : Hid (false = R) := Lib.hid (by have := HS.out; rwa [drop_of Hv.out, balL_hit hab hvu, if_neg (by simp)] at this)
                have e2 : (v != u) = true := by simp [hvu]
                have Hab := Lib.hid hab
                have Hvu := Lib.hid hvu
                clear hab hvu
                clear HS
                go_wp2
                go_ret
                exact ⟨ret_bool HS1.out, Hb1.out.trans ((Hdr.out).below _)⟩
          · obtain rfl : j = m := by omega
            have HS1 : Hid (balT u (k + 1) (t.drop (k + 1)) = R) := Lib.hid (by have := HS.out; rwa [drop_end (l := xs) (by rw [Hxl.out]; exact Nat.le_refl _), balL, if_pos rfl] at this)
            go_wp2
            go_roundw
            case rel => exact ⟨k + 1, by omega, by go_num, HS1.out, Hdr.out⟩
            case measure => simp [intOf]; omega
      · obtain rfl : k = m := by omega
        have HS1 : Hid (true = R) := Lib.hid (by have := HS.out; rwa [drop_end (l := t) (by rw [HT.out.len]; exact Nat.le_refl _), balT] at this)
        go_wp2
        go_ret
        exact ⟨ret_bool HS1.out, Hb1.out.trans (Hd.out.below _)⟩
  · have hR2 : false = R := by rw [← HR.out, balF, if_neg h]
    have hct := iCarryTable_no n A c plan w Ha.out hm h
    have Hct := Lib.hid hct
    have HR2 := Lib.hid hR2
    clear hct hR2
    clear h
    go_enter Try.func20, Try.ntmps20
    go_wp2_with fail
    refine (Hct.out).mono ?_
    rintro e w1 ⟨rfl, hb1⟩
    have Hb1 := Lib.hid hb1
    clear hb1
    go_wp2
    go_loopw [15] (fun i wr => i = .int .i64 0 ∧ wr = w1) (fun i _ => 0)
    case atStart => exact ⟨rfl, rfl⟩
    case round =>
      obtain ⟨rfl, rfl⟩ := hrel
      go_wp2
      go_ret
      exact ⟨ret_bool HR2.out, Hb1.out⟩

set_option maxHeartbeats 4000000 in
theorem sIsBalancedPlan_c (n : Int) (A : Option Addr) (c : Nat) (plan : List (List Int)) (w : World) (ha : Rows w A plan) (hm : plan.length ≤ 1048576) :
    Calls Try.prog 19 #[.int .i64 n, .slice A plan.length c] w (Gives w (.bool (balF n plan))) := by
  generalize hR : balF n plan = R
  have HR := Lib.hid hR
  clear hR
  have Ha := Lib.hid ha
  clear ha
  by_cases h : planOk n plan = true ∧ plan ≠ []
  · obtain ⟨h1, h2⟩ := h
    have hP := plan_of h1
    obtain ⟨m, rfl⟩ := Int.eq_ofNat_of_zero_le (show 0 ≤ n by have := hP.two; omega)
    have hm10 : m ≤ 10 := by have := hP.ten; omega
    have hm2 : 2 ≤ m := by have := hP.two; omega
    have hT := carry_tab h1
    obtain ⟨t, ht⟩ : ∃ t, carryR plan m plan.length 0 (zeros m) = t := ⟨_, rfl⟩
    obtain ⟨u, hu⟩ : ∃ u, two t = u := ⟨_, rfl⟩
    have HS : Hid (balT u 0 t = R) := Lib.hid (by rw [← HR.out, balF, if_pos ⟨h1, h2⟩, ← hu, ← ht]; rfl)
    have hpos : 1 ≤ plan.length := List.length_pos_iff.2 h2
    have hl36 := hP.len
    have H1 := Lib.hid h1
    have H2 := Lib.hid h2
    have HP := Lib.hid hP
    have Ht := Lib.hid ht
    have Hu := Lib.hid hu
    clear h1 h2 hP ht hu
    clear HR
    go_enter Try.func19, Try.ntmps19
    go_wp2_with fail
    refine (calls_v (sPlanOk_c _ _ _ _ _ Ha.out hm) (congrArg Value.bool H1.out)).mono ?_
    rintro e w0 ⟨rfl, hq⟩
    have Hq := Lib.hid hq
    clear hq
    go_wp2_with fail
    refine (l18Table_t _ _ _ _ _ (Ha.out.keep Hq.out.keep) H1.out H2.out).mono ?_
    rintro e w1 ⟨ad, c1, rfl, hr1, hb1⟩
    rw [Ht.out] at hr1 hT
    have hb1 := (Hq.out.below w.heap.size).trans (hb1.mono (Hq.out.below 0).size)
    obtain ⟨z, g, gc, hz1, hz2, hcz, hcu, hzc⟩ := two_at hT hm2 hr1
    rw [Hu.out] at hcu hz2
    have HT := Lib.hid hT
    clear hT
    have Hr1 := Lib.hid hr1
    have Hb1 := Lib.hid hb1
    have Hcz := Lib.hid hcz
    have Hcu := Lib.hid hcu
    have Hz1 := Lib.hid hz1
    have Hz2 := Lib.hid hz2
    clear hr1 hb1 hcz hcu hz1 hz2
    go_wp2
    go_loopw [6] (fun i wr => ∃ k : Nat, k ≤ m ∧ i = .int .i64 k ∧ balT u k (t.drop k) = R ∧ Dr w1 wr) (fun i _ => m - (intOf i).toNat)
    case atStart => exact ⟨0, Nat.zero_le _, rfl, HS.out, Dr.refl _⟩
    case round =>
      obtain ⟨k, hk, rfl, hS, hd⟩ := hrel
      have HS := Lib.hid hS
      have Hd := Lib.hid hd
      clear hS hd
      by_cases hlt : k < m
      · obtain ⟨xs, hx⟩ := some_of (l := t) (k := k) (by rw [HT.out.len]; exact hlt)
        obtain ⟨hxl, hxb⟩ := HT.out.row xs (List.mem_of_getElem? hx)
        obtain ⟨ad', a, c', e', _, _, hca, hia⟩ := Hr1.out k xs hx
        obtain rfl : ad = ad' := by injection e'
        rw [hxl] at hca
        have hki : (k : Int) < (m : Int) := by omega
        have HS1 : Hid ((if balL u k 0 xs = true then balT u (k + 1) (t.drop (k + 1)) else false) = R) := Lib.hid (by have := HS.out; rwa [drop_of hx, balT] at this)
        have hcaw := Hd.out.keep _ _ hca
        have Hca := Lib.hid hca
        have Hx := Lib.hid hx
        have Hxl := Lib.hid hxl
        have Hia := Lib.hid hia
        clear hx hxl hia
        clear e' HS hxb hca
        go_wp2
        clear hcaw
        go_loopw [7] (fun i wr => ∃ j : Nat, j ≤ m ∧ i = .int .i64 j ∧ (if balL u k j (xs.drop j) = true then balT u (k + 1) (t.drop (k + 1)) else false) = R ∧ Dr w1 wr) (fun i _ => m - (intOf i).toNat)
        case atStart => exact ⟨0, Nat.zero_le _, rfl, HS1.out, Hd.out⟩
        case round =>
          clear HS1 Hd
          obtain ⟨j, hj, rfl, hS, hdr⟩ := hrel
          have HS := Lib.hid hS
          have Hdr := Lib.hid hdr
          clear hS hdr
          by_cases hlt2 : j < m
          · have hji : (j : Int) < (m : Int) := by omega
            obtain ⟨v, hv⟩ := some_of (l := xs) (k := j) (by rw [Hxl.out]; exact hlt2)
            obtain ⟨bd, rfl, hcv⟩ := (Hia.out.keep Hdr.out.keep) j v hv
            have hcz := Hdr.out.keep _ _ Hcz.out
            have hcu := Hdr.out.keep _ _ Hcu.out
            have hca2 := Hdr.out.keep _ _ Hca.out
            have Hv := Lib.hid hv
            clear hv
            by_cases hab : k = j
            · have HS1 : Hid ((if balL u k (j + 1) (xs.drop (j + 1)) = true then balT u (k + 1) (t.drop (k + 1)) else false) = R) := Lib.hid (by have := HS.out; rwa [drop_of Hv.out, balL_skip (by simp [hab])] at this)
              have e1 : ((k : Int) != (j : Int)) = false := by simp [hab]
              have Hab := Lib.hid hab
              clear hab
              clear HS
              go_wp2
              go_quiet (fail)
              go_wp2
              go_roundw
              case rel => exact ⟨j + 1, by omega, by go_num, HS1.out, Hdr.out.dN _⟩
              case measure => simp [intOf]; omega
            · have e1 : ((k : Int) != (j : Int)) = true := by simp; omega
              by_cases hvu : v = u
              · have HS1 : Hid ((if balL u k (j + 1) (xs.drop (j + 1)) = true then balT u (k + 1) (t.drop (k + 1)) else false) = R) := Lib.hid (by have := HS.out; rwa [drop_of Hv.out, balL_skip (by simp [hvu])] at this)
                have e2 : (v != u) = false := by simp [hvu]
                have Hab := Lib.hid hab
                have Hvu := Lib.hid hvu
                clear hab hvu
                clear HS
                go_wp2
                go_quiet (fail)
                go_wp2
                go_roundw
                case rel => exact ⟨j + 1, by omega, by go_num, HS1.out, Hdr.out.dN _⟩
                case measure => simp [intOf]; omega
              · have HS1 : Hid (false = R) := Lib.hid (by have := HS.out; rwa [drop_of Hv.out, balL_hit hab hvu, if_neg (by simp)] at this)
                have e2 : (v != u) = true := by simp [hvu]
                have Hab := Lib.hid hab
                have Hvu := Lib.hid hvu
                clear hab hvu
                clear HS
                go_wp2
                go_quiet (fail)
                go_wp2
                go_ret
                exact ⟨ret_bool HS1.out, Hb1.out.trans ((Hdr.out.dN _).below _)⟩
          · obtain rfl : j = m := by omega
            have HS1 : Hid (balT u (k + 1) (t.drop (k + 1)) = R) := Lib.hid (by have := HS.out; rwa [drop_end (l := xs) (by rw [Hxl.out]; exact Nat.le_refl _), balL, if_pos rfl] at this)
            go_wp2
            go_roundw
            case rel => exact ⟨k + 1, by omega, by go_num, HS1.out, Hdr.out⟩
            case measure => simp [intOf]; omega
      · obtain rfl : k = m := by omega
        have HS1 : Hid (true = R) := Lib.hid (by have := HS.out; rwa [drop_end (l := t) (by rw [HT.out.len]; exact Nat.le_refl _), balT] at this)
        go_wp2
        go_ret
        exact ⟨ret_bool HS1.out, Hb1.out.trans (Hd.out.below _)⟩
  · have hR2 : false = R := by rw [← HR.out, balF, if_neg h]
    have HR2 := Lib.hid hR2
    clear hR2
    cases h1 : planOk n plan
    · have H1 := Lib.hid h1
      clear h1
      clear h
      go_enter Try.func19, Try.ntmps19
      go_wp2_with fail
      refine (calls_v (sPlanOk_c _ _ _ _ _ Ha.out hm) (congrArg Value.bool H1.out)).mono ?_
      rintro e w1 ⟨rfl, hq⟩
      go_wp2
      go_ret
      exact ⟨ret_bool HR2.out, hq.below _⟩
    · obtain rfl : plan = [] := Classical.byContradiction fun e => h ⟨h1, e⟩
      have H1 := Lib.hid h1
      clear h1
      clear h
      go_enter Try.func19, Try.ntmps19
      go_wp2_with fail
      refine (calls_v (sPlanOk_c _ _ _ _ _ Ha.out hm) (congrArg Value.bool H1.out)).mono ?_
      rintro e w1 ⟨rfl, hq⟩
      go_wp2
      go_ret
      exact ⟨ret_bool HR2.out, hq.below _⟩
end Go.Proofs.Ythbpeolcmlkneaa
