
/- Contracts: a plan is a round robin (program and reference). -/
import Derived.Test.YtfkccgblgjpalaaGreatRobin2
namespace Go.Proofs.YtfkccgblgjpalaaGreat
open Go.RowKit

/-! ### How often each other club is met -/
def bump (cs : List Int) (o : Nat) : List Int := cs.set o (cs.getD o 0 + 1)
def metBy (k : Nat) : List (List Int) → List Int → List Int
  | [], cs => cs
  | round :: r, cs => metBy k r (bump cs (opp (round.getD k 0)).toNat)
def onlyK (k : Nat) (each : Int) : Nat → List Int → Bool
  | _, [] => true
  | j, c :: r => (decide (j = k) || decide (c = each)) && onlyK k each (j + 1) r
def rrAt (n : Nat) (plan : List (List Int)) (each : Int) (k : Nat) : Bool := onlyK k each 0 (metBy k plan (List.replicate n 0))
def allUp (p : Nat → Bool) (k : Nat) : Nat → Bool
  | 0 => true
  | m + 1 => p k && allUp p (k + 1) m
def rrOk (n : Int) (plan : List (List Int)) (each : Int) : Bool :=
  planOk n plan && inR each 1 4 && decide ((plan.length : Int) = each * (n - 1)) && allUp (rrAt n.toNat plan each) 0 n.toNat
theorem bump_length (cs : List Int) (o : Nat) : (bump cs o).length = cs.length := by simp [bump]
theorem metBy_length (k : Nat) : ∀ (r : List (List Int)) (cs : List Int), (metBy k r cs).length = cs.length
  | [], _ => rfl
  | x :: r, cs => by simp [metBy, metBy_length k r, bump_length]
theorem allUp_step (p : Nat → Bool) {k n : Nat} (h : k < n) : allUp p k (n - k) = (p k && allUp p (k + 1) (n - (k + 1))) := by
  rw [show n - k = (n - (k + 1)) + 1 from by omega]; rfl

set_option maxHeartbeats 2000000 in
theorem iIsRoundRobin_c (n : Int) (A : Option Addr) (c : Nat) (plan : List (List Int)) (each : Int) (w : World) (ha : Rows w A plan) (hm : plan.length ≤ 1048576) :
    Calls Tryz.prog 9 #[.int .i64 n, .slice A plan.length c, .int .i64 each] w (Gives w (.bool (rrOk n plan each))) := by
  generalize hR : rrOk n plan each = R
  have HR := Lib.hid hR
  clear hR
  have Ha := Lib.hid ha
  clear ha
  cases hp : planOk n plan
  · have Hp := Lib.hid hp
    clear hp
    go_enter Tryz.func9, Tryz.ntmps9
    go_wp2_with fail
    refine (calls_v (iPlanOk_c _ _ _ _ _ Ha.out hm) (congrArg Value.bool Hp.out)).mono ?_
    rintro e w1 ⟨rfl, hq⟩
    go_wp2
    go_ret
    exact ⟨ret_bool (by rw [← HR.out]; simp [rrOk, Hp.out]), hq.below _⟩
  · have hP := plan_of hp
    have h1 := hP.two
    have h2 := hP.ten
    have h36 := hP.len
    have Hp := Lib.hid hp
    have HP := Lib.hid hP
    clear hp hP
    cases he : inR each 1 4
    · have He := Lib.hid he
      clear he
      go_enter Tryz.func9, Tryz.ntmps9
      go_wp2_with fail
      refine (calls_v (iPlanOk_c _ _ _ _ _ Ha.out hm) (congrArg Value.bool Hp.out)).mono ?_
      rintro e w1 ⟨rfl, hq⟩
      have Hq := Lib.hid hq
      clear hq
      go_wp2_with fail
      refine (calls_v (within_c _ _ _ _) (congrArg Value.bool He.out)).mono ?_
      rintro e w2 ⟨rfl, hq⟩
      go_wp2
      go_ret
      exact ⟨ret_bool (by rw [← HR.out]; simp [rrOk, He.out]), (Hq.out.trans hq).below _⟩
    · obtain ⟨he1, he2⟩ := inR_true he
      have hm1 : 0 ≤ each * (n - 1) := Int.mul_nonneg (by omega) (by omega)
      have hm2 : each * (n - 1) ≤ 4 * (n - 1) := Int.mul_le_mul_of_nonneg_right he2 (by omega)
      have hm3 : each * (n - 1) ≤ 36 := by omega
      clear hm2
      have He := Lib.hid he
      clear he
      by_cases hl : (plan.length : Int) = each * (n - 1)
      · have hl' : ((plan.length : Int) != each * (n - 1)) = false := by simpa using hl
        obtain ⟨n, rfl⟩ := Int.eq_ofNat_of_zero_le (by omega : 0 ≤ n)
        have hS : allUp (rrAt n plan each) 0 (n - 0) = R := by rw [← HR.out]; simp [rrOk, Hp.out, He.out, hl]
        have hmk := fun W => run_make_row' (P := Tryz.prog) 36 3 (.int .i64 0) 8 Tryz.underlying36 info_int rfl .i64 .i64 n (by omega) (by omega) W
        have Hl := Lib.hid hl
        have HS := Lib.hid hS
        clear hl hS
        go_enter Tryz.func9, Tryz.ntmps9
        go_wp2_with fail
        refine (calls_v (iPlanOk_c _ _ _ _ _ Ha.out hm) (congrArg Value.bool Hp.out)).mono ?_
        rintro e w1 ⟨rfl, hq⟩
        have Hq := Lib.hid hq
        clear hq
        go_wp2_with fail
        refine (calls_v (within_c _ _ _ _) (congrArg Value.bool He.out)).mono ?_
        rintro e w2 ⟨rfl, hq⟩
        have hq2 := Hq.out.trans hq
        clear hq
        have Hq2 := Lib.hid hq2
        clear hq2
        go_wp2
        go_loopw [32] (fun i wr => ∃ k : Nat, k ≤ n ∧ i = .int .i64 k ∧ allUp (rrAt n plan each) k (n - k) = R ∧ Below w.heap.size w wr) (fun i _ => n - (intOf i).toNat)
        case atStart => exact ⟨0, Nat.zero_le _, rfl, HS.out, Hq2.out.below _⟩
        case round =>
          obtain ⟨k, hk, rfl, hS, hb⟩ := hrel
          have HT := Lib.hid hS
          clear hS
          have Hb := Lib.hid hb
          clear hb
          by_cases hlt : k < n
          · have hT := HT.out
            rw [allUp_step _ hlt] at hT
            have HT2 := Lib.hid hT
            clear hT
            obtain ⟨wo, hwo⟩ : ∃ wo : World, wo = wr := ⟨_, rfl⟩
            rw [← hwo] at Hb ⊢
            clear hwo wr
            go_wp2
            go_loopw [39] (fun i wr => ∃ (j : Nat) (cs : List Int), j ≤ plan.length ∧ i = .int .i64 j ∧ cs.length = n ∧ metBy k (plan.drop j) cs = metBy k plan (List.replicate n 0) ∧ (∀ x ∈ cs, 0 ≤ x ∧ x ≤ j) ∧ Own 3 wo.heap.size (wo.heap.size + 1) wr (some ⟨wo.heap.size, 0, none⟩) n (cs.map (.int .i64)) ∧ Below wo.heap.size wo wr) (fun i _ => plan.length - (intOf i).toNat)
            case atStart => exact ⟨0, List.replicate n 0, Nat.zero_le _, rfl, by simp, rfl, fun x hx => by have := List.eq_of_mem_replicate hx; omega, by rw [List.map_replicate]; exact own_made _ _ _ _ _ (Nat.le_refl _) (by unfold maxLen; omega), (Below.refl _ _).alloc (Nat.le_refl _) _⟩
            case round =>
              obtain ⟨j, cs, hj, rfl, hcl, hmet, hcs, ho, hb2⟩ := hrel
              have Hmet := Lib.hid hmet
              have Ho := Lib.hid ho
              have Hb2 := Lib.hid hb2
              clear hmet ho hb2
              by_cases hlt2 : j < plan.length
              · obtain ⟨round, hx⟩ := some_of hlt2
                have hl := HP.out.rlen hx
                obtain ⟨v, hv⟩ := some_of (l := round) (k := k) (by omega)
                have hC := HP.out.cell hx hv
                have hv1 : -1000 ≤ v := by have := hC.lo; omega
                have hv2 : v ≤ 1000 := by have := hC.hi; omega
                obtain ⟨o, ho⟩ : ∃ o : Nat, opp v = o := ⟨(opp v).toNat, by have := hC.opp0; omega⟩
                have ho2 : o < n := by have := hC.oppn; omega
                obtain ⟨x, hcx⟩ := some_of (l := cs) (k := o) (by omega)
                obtain ⟨hx1, hx2⟩ := hcs x (List.mem_of_getElem? hcx)
                obtain ⟨ad, a, c', rfl, _, _, hca0, hia⟩ := Ha.out.keep (keep_of_below Hb.out) _ _ hx
                obtain ⟨bd, rfl, hcb0⟩ := hia _ _ hv
                have hkp := keep_of_below Hb2.out
                have hca := hkp _ _ hca0
                have hcb := hkp _ _ hcb0
                have hkl : k < round.length := lt_of hv
                obtain ⟨g, hg, _, _, hcg, hfg⟩ := Ho.out.at_ (map_some hcx)
                obtain rfl : wo.heap.size = g := by injection hg with hg; injection hg
                have hbump : bump cs o = cs.set o (x + 1) := by unfold bump; rw [getD_of hcx]
                have hmet2 : metBy k (plan.drop (j + 1)) (cs.set o (x + 1)) = metBy k plan (List.replicate n 0) := by
                  rw [← Hmet.out, drop_of hx, metBy, getD_of hv, ho, Int.toNat_natCast, hbump]
                have HIA := Lib.hid (hia.keep hkp)
                have Hv := Lib.hid hv
                have Hbu := Lib.hid hmet2
                have Hc := Lib.hid hcs
                have Ho9 := Lib.hid ho
                clear hv hmet2 hcs hl hC hx hia hkp hca0 hcb0 hcx hbump hg ho
                go_wp2_with fail
                refine (calls_v (opponent_c _ _ _ _ v _ HIA.out (by simpa using Hv.out) (by omega) hv1 hv2) (congrArg (Value.int .i64) Ho9.out)).mono ?_
                rintro e w3 ⟨rfl, q3, rfl⟩
                go_wp2
                go_roundw
                case rel => exact ⟨j + 1, cs.set o (x + 1), by omega, by go_num, by simpa using hcl, Hbu.out, fun y hy => by
                  rcases List.mem_or_eq_of_mem_set hy with h | rfl
                  · have := Hc.out y h; omega
                  · omega, by rw [List.map_set]; exact Own.set_ (Ho.out.stay fun _ _ _ => rfl) _ _, (Hb2.out.trans (below_drewN _ _ _)).setCell (p := ⟨wo.heap.size, o, none⟩) (Nat.le_refl _) _⟩
                case measure => simp [intOf]; omega
              · obtain rfl : j = plan.length := by omega
                have hcs2 : onlyK k each 0 (cs.drop 0) = rrAt n plan each k := by
                  have := Hmet.out
                  rw [List.drop_length, metBy] at this
                  rw [List.drop_zero, this]; rfl
                have HC := Lib.hid hcs2
                clear hcs2 hcs
                go_wp2
                obtain ⟨wi, hwi⟩ : ∃ wi : World, wi = wr := ⟨_, rfl⟩
                rw [← hwi] at Ho Hb2 ⊢
                clear hwi wr
                go_loopw [54] (fun i wr => ∃ j : Nat, j ≤ n ∧ i = .int .i64 j ∧ onlyK k each j (cs.drop j) = rrAt n plan each k ∧ Dr wi wr) (fun i _ => n - (intOf i).toNat)
                case atStart => exact ⟨0, Nat.zero_le _, rfl, HC.out, Dr.refl _⟩
                case round =>
                  obtain ⟨j, hj, rfl, hon, hd⟩ := hrel
                  have Hon := Lib.hid hon
                  have Hd := Lib.hid hd
                  clear hon hd
                  by_cases hlt3 : j < n
                  · obtain ⟨x, hcx⟩ := some_of (l := cs) (k := j) (by omega)
                    obtain ⟨g, hg, _, _, hcg0, _⟩ := Ho.out.at_ (map_some hcx)
                    obtain rfl : wo.heap.size = g := by injection hg with hg; injection hg
                    have hcg := Hd.out.keep _ _ hcg0
                    have Hon2 : Hid (((decide (j = k) || decide (x = each)) && onlyK k each (j + 1) (cs.drop (j + 1))) = rrAt n plan each k) := Lib.hid (by have := Hon.out; rwa [drop_of hcx, onlyK] at this)
                    have Hcx := Lib.hid hcx
                    clear hcx
                    clear hg hcg0
                    by_cases hjk : j = k
                    · have hjk1 : ((j : Int) != (k : Int)) = false := by simp [hjk]
                      have hjk2 : (j != k) = false := by simp [hjk]
                      have Hjk := Lib.hid hjk
                      clear hjk
                      go_wp2
                      go_roundw
                      case rel => exact ⟨j + 1, by omega, by go_num, by rw [← Hon2.out]; simp [Hjk.out], Hd.out⟩
                      case measure => simp [intOf]; omega
                    · have hjk1 : ((j : Int) != (k : Int)) = true := by simp; omega
                      have hjk2 : (j != k) = true := by simp; omega
                      by_cases hxe : x = each
                      · have hxe1 : (x != each) = false := by simp [hxe]
                        have Hxe := Lib.hid hxe
                        clear hxe
                        go_wp2
                        go_roundw
                        case rel => exact ⟨j + 1, by omega, by go_num, by rw [← Hon2.out]; simp [Hxe.out], Hd.out⟩
                        case measure => simp [intOf]; omega
                      · have hxe1 : (x != each) = true := by simp [hxe]
                        have Hxe := Lib.hid hxe
                        clear hxe
                        go_wp2
                        go_ret
                        exact ⟨ret_bool (by rw [← HT2.out, ← Hon2.out]; simp [hjk, Hxe.out]), (Hb.out.trans (Hb2.out.mono Hb.out.size)).trans (Hd.out.below _)⟩
                  · obtain rfl : j = n := by omega
                    have hT3 : allUp (rrAt j plan each) (k + 1) (j - (k + 1)) = R := by
                      rw [← HT2.out, ← Hon.out, drop_end (by omega)]; simp [onlyK]
                    have HT3 := Lib.hid hT3
                    clear hT3
                    go_wp2
                    go_roundw
                    case rel => exact ⟨k + 1, by omega, by go_num, HT3.out, (Hb.out.trans (Hb2.out.mono Hb.out.size)).trans (Hd.out.below _)⟩
                    case measure => simp [intOf]; omega
          · obtain rfl : k = n := by omega
            go_wp2
            go_ret
            exact ⟨ret_bool (by have := HT.out; rw [Nat.sub_self] at this; exact this), Hb.out⟩
      · have hl' : ((plan.length : Int) != each * (n - 1)) = true := by simpa using hl
        have Hl := Lib.hid hl
        clear hl
        go_enter Tryz.func9, Tryz.ntmps9
        go_wp2_with fail
        refine (calls_v (iPlanOk_c _ _ _ _ _ Ha.out hm) (congrArg Value.bool Hp.out)).mono ?_
        rintro e w1 ⟨rfl, hq⟩
        have Hq := Lib.hid hq
        clear hq
        go_wp2_with fail
        refine (calls_v (within_c _ _ _ _) (congrArg Value.bool He.out)).mono ?_
        rintro e w2 ⟨rfl, hq⟩
        go_wp2
        go_ret
        exact ⟨ret_bool (by rw [← HR.out]; simp [rrOk, Hl.out]), (Hq.out.trans hq).below _⟩
end Go.Proofs.YtfkccgblgjpalaaGreat
