/- Contracts: the sum of the squares of how often clubs follow each other (program and reference). -/
import Derived.Test.YthbpeolcmlkneaaCarryS
import Derived.WalkSpells
namespace Go.Proofs.Ythbpeolcmlkneaa
open Go.RowKit

def GivesT (m : Nat) (w : World) (t : List (List Int)) (e : Ending) (w' : World) : Prop := ∃ ad c, e = .returned (.slice (some ad) m c) ∧ Rows w' (some ad) t ∧ Below w.heap.size w w'
theorem givesT_of {m : Nat} {b : Int} {w w' : World} {t : List (List Int)} {e : Ending} (h : GivesII 3 38 w t e w') (ht : Tab m b t) (hm : 1 ≤ m) : GivesT m w t e w' := by
  obtain ⟨A, c, rfl, ho, hb⟩ := h
  have hr := ho.rows
  obtain ⟨xs, hx⟩ := some_of (l := t) (k := 0) (by rw [ht.len]; omega)
  obtain ⟨ad, _, _, rfl, _⟩ := hr 0 xs hx
  exact ⟨ad, c, by rw [ht.len], hr, hb⟩
theorem iCarryTable_t (m : Nat) (A : Option Addr) (c : Nat) (plan : List (List Int)) (w : World) (ha : Rows w A plan) (hm : plan.length ≤ 1048576) (h1 : planOk m plan = true) (h2 : plan ≠ []) :
    Calls Try.prog 13 #[.int .i64 m, .slice A plan.length c] w (GivesT m w (carryR plan m plan.length 0 (zeros m))) := by
  refine (iCarryTable_c m A c plan w ha hm h1 h2).mono fun e w' h => ?_
  rw [carryF, if_pos ⟨h1, h2⟩] at h
  exact givesT_of h (carry_tab h1) (by have := (plan_of h1).two; omega)
theorem l18Table_t (m : Nat) (A : Option Addr) (c : Nat) (plan : List (List Int)) (w : World) (ha : Rows w A plan) (h1 : planOk m plan = true) (h2 : plan ≠ []) :
    Calls Try.prog 39 #[.int .i64 m, .slice A plan.length c] w (GivesT m w (carryR plan m plan.length 0 (zeros m))) := by
  refine (l18Table_c m A c plan w ha h1 h2).mono fun e w' h => ?_
  exact givesT_of h (carry_tab h1) (by have := (plan_of h1).two; omega)

def sqL : List Int → Int → Int
  | [], a => a
  | x :: r, a => sqL r (a + x * x)
def sqT : List (List Int) → Int → Int
  | [], a => a
  | xs :: r, a => sqT r (sqL xs a)
def valF (n : Int) (plan : List (List Int)) : Int := if planOk n plan = true ∧ plan ≠ [] then sqT (carryR plan n.toNat plan.length 0 (zeros n.toNat)) 0 else -1
theorem sq_le {x : Int} (h0 : 0 ≤ x) (h1 : x ≤ 360) : 0 ≤ x * x ∧ x * x ≤ 129600 := ⟨Int.mul_nonneg h0 h0, by have := Int.mul_le_mul h1 h1 h0 (by omega : (0 : Int) ≤ 360); omega⟩

set_option maxHeartbeats 2000000 in
theorem iCarryValue_c (n : Int) (A : Option Addr) (c : Nat) (plan : List (List Int)) (w : World) (ha : Rows w A plan) (hm : plan.length ≤ 1048576) :
    Calls Try.prog 18 #[.int .i64 n, .slice A plan.length c] w (Gives w (.int .i64 (valF n plan))) := by
  generalize hR : valF n plan = R
  have HR := Lib.hid hR
  clear hR
  have hnil := fun (W : World) (a : Option Addr) (n c : Nat) => Lib.run_eql_slice_nil (P := Try.prog) W 22 38 a n c 0 0 Try.underlying22
  have Ha := Lib.hid ha
  clear ha
  by_cases h : planOk n plan = true ∧ plan ≠ []
  · obtain ⟨h1, h2⟩ := h
    have hP := plan_of h1
    obtain ⟨m, rfl⟩ := Int.eq_ofNat_of_zero_le (show 0 ≤ n by have := hP.two; omega)
    have hm10 : m ≤ 10 := by have := hP.ten; omega
    have hT := carry_tab h1
    obtain ⟨t, ht⟩ : ∃ t, carryR plan m plan.length 0 (zeros m) = t := ⟨_, rfl⟩
    have HS : Hid (sqT t 0 = R) := Lib.hid (by rw [← HR.out, valF, if_pos ⟨h1, h2⟩, ← ht]; rfl)
    have hct := iCarryTable_t m A c plan w Ha.out hm h1 h2
    rw [ht] at hct hT
    have H1 := Lib.hid h1
    have H2 := Lib.hid h2
    have HP := Lib.hid hP
    have HT := Lib.hid hT
    have Ht := Lib.hid ht
    have Hct := Lib.hid hct
    clear h1 h2 hP hT ht hct
    clear HR
    go_enter Try.func18, Try.ntmps18
    go_wp2_with fail
    refine (Hct.out).mono ?_
    rintro e w1 ⟨ad, c1, rfl, hr1, hb1⟩
    have Hr1 := Lib.hid hr1
    have Hb1 := Lib.hid hb1
    clear hr1 hb1
    go_wp2
    go_loopw [18, 6] (fun i s wr => ∃ (k : Nat) (z : Int), k ≤ m ∧ i = .int .i64 k ∧ s = .int .i64 z ∧ 0 ≤ z ∧ z ≤ 1296000 * (k : Int) ∧ sqT (t.drop k) z = R ∧ Below w.heap.size w wr ∧ Keep w1 wr) (fun i _ _ => m - (intOf i).toNat)
    case atStart => exact ⟨0, 0, Nat.zero_le _, rfl, rfl, by omega, by omega, HS.out, Hb1.out, Keep.refl _⟩
    case round =>
      obtain ⟨k, z, hk, rfl, rfl, hz0, hz1, hS, hd, hkp⟩ := hrel
      have HS := Lib.hid hS
      have Hd := Lib.hid hd
      have Hkp := Lib.hid hkp
      clear hS hd hkp
      by_cases hlt : k < m
      · obtain ⟨xs, hx⟩ := some_of (l := t) (k := k) (by rw [HT.out.len]; exact hlt)
        obtain ⟨hxl, hxb⟩ := HT.out.row xs (List.mem_of_getElem? hx)
        obtain ⟨ad', a, c', e', _, _, hca, hia⟩ := (Hr1.out.keep Hkp.out) k xs hx
        obtain rfl : ad = ad' := by injection e'
        rw [hxl] at hca
        have HS1 : Hid (sqT (t.drop (k + 1)) (sqL xs z) = R) := Lib.hid (by have := HS.out; rwa [drop_of hx, sqT] at this)
        have Hx := Lib.hid hx
        have Hxl := Lib.hid hxl
        have Hxb := Lib.hid hxb
        have Hia := Lib.hid hia
        clear hx hxl hxb hia
        clear e' HS
        go_wp2
        obtain ⟨wo, hwo⟩ : ∃ wo : World, wo = wr := ⟨_, rfl⟩
        rw [← hwo] at Hd Hkp Hia ⊢
        clear hwo hca wr
        go_loopw [24, 6] (fun i s wr => ∃ (j : Nat) (z : Int), j ≤ m ∧ i = .int .i64 j ∧ s = .int .i64 z ∧ 0 ≤ z ∧ z ≤ 1296000 * (k : Int) + 129600 * (j : Int) ∧ sqT (t.drop (k + 1)) (sqL (xs.drop j) z) = R ∧ Dr wo wr) (fun i _ _ => m - (intOf i).toNat)
        case atStart => exact ⟨0, z, Nat.zero_le _, rfl, rfl, by omega, by omega, HS1.out, Dr.refl _⟩
        case round =>
          clear HS1 hz0 hz1
          obtain ⟨j, z, hj, rfl, rfl, hz0, hz1, hS, hdr⟩ := hrel
          have HS := Lib.hid hS
          have Hdr := Lib.hid hdr
          clear hS hdr
          by_cases hlt2 : j < m
          · obtain ⟨v, hv⟩ := some_of (l := xs) (k := j) (by rw [Hxl.out]; exact hlt2)
            obtain ⟨hv0, hv1⟩ := Hxb.out v (List.mem_of_getElem? hv)
            obtain ⟨bd, rfl, hcv⟩ := (Hia.out.keep Hdr.out.keep) j v hv
            have HS1 : Hid (sqT (t.drop (k + 1)) (sqL (xs.drop (j + 1)) (z + v * v)) = R) := Lib.hid (by have := HS.out; rwa [drop_of hv, sqL] at this)
            obtain ⟨p, hp⟩ : ∃ p, v * v = p := ⟨_, rfl⟩
            obtain ⟨hp0, hp1⟩ := sq_le hv0 hv1
            rw [hp] at hp0 hp1 HS1
            have e1 : IntKind.i64.wrap (v * v) = p := by rw [hp]; exact IntWalk.i64_in _ (by omega)
            have e2 : IntKind.i64.wrap (z + p) = z + p := IntWalk.i64_in _ (by omega)
            have Hv := Lib.hid hv
            have Hp := Lib.hid hp
            clear hv hp
            clear HS
            go_wp2
            go_roundw
            case rel => exact ⟨j + 1, z + p, by omega, by go_num, by go_num, by omega, by omega, HS1.out, Hdr.out⟩
            case measure => simp [intOf]; omega
          · obtain rfl : j = m := by omega
            have HS1 : Hid (sqT (t.drop (k + 1)) z = R) := Lib.hid (by have := HS.out; rwa [drop_end (l := xs) (by rw [Hxl.out]; exact Nat.le_refl _), sqL] at this)
            go_wp2
            go_roundw
            case rel => exact ⟨k + 1, z, by omega, by go_num, rfl, by omega, by omega, HS1.out, Hd.out.trans (Hdr.out.below _), Hkp.out.trans Hdr.out.keep⟩
            case measure => simp [intOf]; omega
      · obtain rfl : k = m := by omega
        have HS1 : Hid (z = R) := Lib.hid (by have := HS.out; rwa [drop_end (l := t) (by rw [HT.out.len]; exact Nat.le_refl _), sqT] at this)
        go_wp2
        go_ret
        exact ⟨ret_int (by rw [HS1.out]), Hd.out⟩
  · have hR2 : (-1 : Int) = R := by rw [← HR.out, valF, if_neg h]
    have hct := iCarryTable_no n A c plan w Ha.out hm h
    have Hct := Lib.hid hct
    have HR2 := Lib.hid hR2
    clear hct hR2
    clear h
    go_enter Try.func18, Try.ntmps18
    go_wp2_with fail
    refine (Hct.out).mono ?_
    rintro e w1 ⟨rfl, hb1⟩
    go_wp2
    go_ret
    exact ⟨ret_int HR2.out, hb1⟩

set_option maxHeartbeats 2000000 in
theorem l18Value_c (m : Nat) (A : Option Addr) (c : Nat) (plan : List (List Int)) (w : World) (ha : Rows w A plan) (h1 : planOk m plan = true) (h2 : plan ≠ []) :
    Calls Try.prog 45 #[.int .i64 m, .slice A plan.length c] w (Gives w (.int .i64 (valF m plan))) := by
    generalize hR : valF m plan = R
    have HR := Lib.hid hR
    clear hR
    have Ha := Lib.hid ha
    clear ha
    have hP := plan_of h1
    have hm10 : m ≤ 10 := by have := hP.ten; omega
    have hT := carry_tab h1
    obtain ⟨t, ht⟩ : ∃ t, carryR plan m plan.length 0 (zeros m) = t := ⟨_, rfl⟩
    have HS : Hid (sqT t 0 = R) := Lib.hid (by rw [← HR.out, valF, if_pos ⟨h1, h2⟩, ← ht]; rfl)
    have hct := l18Table_t m A c plan w Ha.out h1 h2
    rw [ht] at hct hT
    have H1 := Lib.hid h1
    have H2 := Lib.hid h2
    have HP := Lib.hid hP
    have HT := Lib.hid hT
    have Ht := Lib.hid ht
    have Hct := Lib.hid hct
    clear h1 h2 hP hT ht hct
    clear HR
    go_enter Try.func45, Try.ntmps45
    go_wp2_with fail
    refine (Hct.out).mono ?_
    rintro e w1 ⟨ad, c1, rfl, hr1, hb1⟩
    have Hr1 := Lib.hid hr1
    have Hb1 := Lib.hid hb1
    clear hr1 hb1
    go_wp2
    go_loopw [14, 5] (fun i s wr => ∃ (k : Nat) (z : Int), k ≤ m ∧ i = .int .i64 k ∧ s = .int .i64 z ∧ 0 ≤ z ∧ z ≤ 1296000 * (k : Int) ∧ sqT (t.drop k) z = R ∧ Below w.heap.size w wr ∧ Keep w1 wr) (fun i _ _ => m - (intOf i).toNat)
    case atStart => exact ⟨0, 0, Nat.zero_le _, rfl, rfl, by omega, by omega, HS.out, Hb1.out, Keep.refl _⟩
    case round =>
      obtain ⟨k, z, hk, rfl, rfl, hz0, hz1, hS, hd, hkp⟩ := hrel
      have HS := Lib.hid hS
      have Hd := Lib.hid hd
      have Hkp := Lib.hid hkp
      clear hS hd hkp
      by_cases hlt : k < m
      · obtain ⟨xs, hx⟩ := some_of (l := t) (k := k) (by rw [HT.out.len]; exact hlt)
        obtain ⟨hxl, hxb⟩ := HT.out.row xs (List.mem_of_getElem? hx)
        obtain ⟨ad', a, c', e', _, _, hca, hia⟩ := (Hr1.out.keep Hkp.out) k xs hx
        obtain rfl : ad = ad' := by injection e'
        rw [hxl] at hca
        have HS1 : Hid (sqT (t.drop (k + 1)) (sqL xs z) = R) := Lib.hid (by have := HS.out; rwa [drop_of hx, sqT] at this)
        have Hx := Lib.hid hx
        have Hxl := Lib.hid hxl
        have Hxb := Lib.hid hxb
        have Hia := Lib.hid hia
        clear hx hxl hxb hia
        clear e' HS
        go_wp2
        obtain ⟨wo, hwo⟩ : ∃ wo : World, wo = wr := ⟨_, rfl⟩
        rw [← hwo] at Hd Hkp Hia ⊢
        clear hwo hca wr
        go_loopw [20, 5] (fun i s wr => ∃ (j : Nat) (z : Int), j ≤ m ∧ i = .int .i64 j ∧ s = .int .i64 z ∧ 0 ≤ z ∧ z ≤ 1296000 * (k : Int) + 129600 * (j : Int) ∧ sqT (t.drop (k + 1)) (sqL (xs.drop j) z) = R ∧ Dr wo wr) (fun i _ _ => m - (intOf i).toNat)
        case atStart => exact ⟨0, z, Nat.zero_le _, rfl, rfl, by omega, by omega, HS1.out, Dr.refl _⟩
        case round =>
          clear HS1 hz0 hz1
          obtain ⟨j, z, hj, rfl, rfl, hz0, hz1, hS, hdr⟩ := hrel
          have HS := Lib.hid hS
          have Hdr := Lib.hid hdr
          clear hS hdr
          by_cases hlt2 : j < m
          · obtain ⟨v, hv⟩ := some_of (l := xs) (k := j) (by rw [Hxl.out]; exact hlt2)
            obtain ⟨hv0, hv1⟩ := Hxb.out v (List.mem_of_getElem? hv)
            obtain ⟨bd, rfl, hcv⟩ := (Hia.out.keep Hdr.out.keep) j v hv
            have HS1 : Hid (sqT (t.drop (k + 1)) (sqL (xs.drop (j + 1)) (z + v * v)) = R) := Lib.hid (by have := HS.out; rwa [drop_of hv, sqL] at this)
            obtain ⟨p, hp⟩ : ∃ p, v * v = p := ⟨_, rfl⟩
            obtain ⟨hp0, hp1⟩ := sq_le hv0 hv1
            rw [hp] at hp0 hp1 HS1
            have e1 : IntKind.i64.wrap (v * v) = p := by rw [hp]; exact IntWalk.i64_in _ (by omega)
            have e2 : IntKind.i64.wrap (z + p) = z + p := IntWalk.i64_in _ (by omega)
            have Hv := Lib.hid hv
            have Hp := Lib.hid hp
            clear hv hp
            clear HS
            go_wp2
            go_roundw
            case rel => exact ⟨j + 1, z + p, by omega, by go_num, by go_num, by omega, by omega, HS1.out, Hdr.out⟩
            case measure => simp [intOf]; omega
          · obtain rfl : j = m := by omega
            have HS1 : Hid (sqT (t.drop (k + 1)) z = R) := Lib.hid (by have := HS.out; rwa [drop_end (l := xs) (by rw [Hxl.out]; exact Nat.le_refl _), sqL] at this)
            go_wp2
            go_roundw
            case rel => exact ⟨k + 1, z, by omega, by go_num, rfl, by omega, by omega, HS1.out, Hd.out.trans (Hdr.out.below _), Hkp.out.trans Hdr.out.keep⟩
            case measure => simp [intOf]; omega
      · obtain rfl : k = m := by omega
        have HS1 : Hid (z = R) := Lib.hid (by have := HS.out; rwa [drop_end (l := t) (by rw [HT.out.len]; exact Nat.le_refl _), sqT] at this)
        go_wp2
        go_ret
        exact ⟨ret_int (by rw [HS1.out]), Hd.out⟩

set_option maxHeartbeats 1000000 in
theorem sCarryValue_c (n : Int) (A : Option Addr) (c : Nat) (plan : List (List Int)) (w : World) (ha : Rows w A plan) (hm : plan.length ≤ 1048576) :
    Calls Try.prog 17 #[.int .i64 n, .slice A plan.length c] w (Gives w (.int .i64 (valF n plan))) := by
  have Ha := Lib.hid ha
  clear ha
  cases h1 : planOk n plan
  · have hv : (-1 : Int) = valF n plan := by rw [valF, if_neg (by simp [h1])]
    have H1 := Lib.hid h1
    have Hv := Lib.hid hv
    clear h1 hv
    go_enter Try.func17, Try.ntmps17
    go_wp2_with fail
    refine (calls_v (sPlanOk_c _ _ _ _ _ Ha.out hm) (congrArg Value.bool H1.out)).mono ?_
    rintro e w1 ⟨rfl, hq⟩
    go_wp2
    go_ret
    exact ⟨ret_int Hv.out, hq.below _⟩
  · have hP := plan_of h1
    obtain ⟨m, rfl⟩ := Int.eq_ofNat_of_zero_le (show 0 ≤ n by have := hP.two; omega)
    by_cases h2 : plan = []
    · subst h2
      have hv : (-1 : Int) = valF m [] := by rw [valF, if_neg (by simp)]
      have H1 := Lib.hid h1
      have Hv := Lib.hid hv
      clear h1 hv
      clear hP
      go_enter Try.func17, Try.ntmps17
      go_wp2_with fail
      refine (calls_v (sPlanOk_c _ _ _ _ _ Ha.out hm) (congrArg Value.bool H1.out)).mono ?_
      rintro e w1 ⟨rfl, hq⟩
      go_wp2
      go_ret
      exact ⟨ret_int Hv.out, hq.below _⟩
    · have hpos : 1 ≤ plan.length := List.length_pos_iff.2 h2
      have hl36 := hP.len
      obtain ⟨v, hv⟩ : ∃ v, valF m plan = v := ⟨_, rfl⟩
      rw [hv]
      have H1 := Lib.hid h1
      have H2 := Lib.hid h2
      have Hv := Lib.hid hv
      clear h1 h2 hv
      clear hP
      go_enter Try.func17, Try.ntmps17
      go_wp2_with fail
      refine (calls_v (sPlanOk_c _ _ _ _ _ Ha.out hm) (congrArg Value.bool H1.out)).mono ?_
      rintro e w1 ⟨rfl, hq⟩
      have Hq := Lib.hid hq
      clear hq
      go_wp2_with fail
      refine (gives_v (l18Value_c _ _ _ _ _ (Ha.out.keep Hq.out.keep) H1.out H2.out) (congrArg (Value.int .i64) Hv.out)).mono ?_
      rintro e w2 ⟨rfl, hb⟩
      have Hb := Lib.hid hb
      clear hb
      go_wp2
      go_ret
      exact ⟨rfl, (Hq.out.below _).trans (Hb.out.mono (Hq.out.below 0).size)⟩
end Go.Proofs.Ythbpeolcmlkneaa
