
/- Contracts: the pattern of home and away of a club of a plan, as a text (program and reference). -/
import Derived.Test.YtfkccgblgjpalaaGreatRobin2
namespace Go.Proofs.YtfkccgblgjpalaaGreat
open Go.RowKit

theorem info_u8 : (Tryz.prog.info? 5).map (fun i => (i.zero, i.size, i.bytes)) = some (some (.int .u8 0), 1, 1) := by kernel_rfl
def ven (k : Nat) (round : List Int) : Int := if 0 < round.getD k 0 then 72 else 65
def venues (n : Int) (plan : List (List Int)) (k : Int) : ByteArray := if ofPlan n plan k then strOfNums (plan.map (ven k.toNat)) else ⟨#[]⟩
theorem str_snoc (xs : List Int) (b : UInt8) (y : Int) (h : UInt8.ofNat y.toNat = b) : strOfNums xs ++ ⟨#[b]⟩ = strOfNums (xs ++ [y]) := by
  apply ByteArray.ext
  simp [strOfNums, h]

set_option maxHeartbeats 1000000 in
theorem iVenuesOf_c (n : Int) (A : Option Addr) (c : Nat) (plan : List (List Int)) (k : Int) (w : World) (ha : Rows w A plan) (hm : plan.length ≤ 1048576) :
    Calls Tryz.prog 19 #[.int .i64 n, .slice A plan.length c, .int .i64 k] w (Gives w (.string (venues n plan k))) := by
  generalize hR : venues n plan k = R
  have HR := Lib.hid hR
  clear hR
  have Ha := Lib.hid ha
  clear ha
  cases hp : ofPlan n plan k
  · have Hp := Lib.hid hp
    clear hp
    go_enter Tryz.func19, Tryz.ntmps19
    go_wp2_with fail
    refine (calls_v (isOfPlan_c _ _ _ _ _ _ Ha.out hm) (congrArg Value.bool Hp.out)).mono ?_
    rintro e w1 ⟨rfl, hq⟩
    go_wp2
    go_ret
    exact ⟨by rw [← HR.out, venues, if_neg (by simp [Hp.out])]; rfl, hq.below _⟩
  · have hP := plan_of (n := n) (plan := plan) (by simp only [ofPlan, Bool.and_eq_true] at hp; exact hp.1)
    have hk := inR_true (n := k) (lo := 0) (hi := n - 1) (by simp only [ofPlan, Bool.and_eq_true] at hp; exact hp.2)
    obtain ⟨hk1, hk2⟩ := hk
    have h1 := hP.two
    have h2 := hP.ten
    have h36 := hP.len
    obtain ⟨k, rfl⟩ := Int.eq_ofNat_of_zero_le hk1
    have hval : R = strOfNums (plan.map (ven k)) := by rw [← HR.out, venues, if_pos (by simp [hp])]; rfl
    have hmk := fun W => run_make_row' (P := Tryz.prog) 22 5 (.int .u8 0) 1 Tryz.underlying22 info_u8 rfl .i64 .i64 plan.length (by omega) (by omega) W
    have Hp := Lib.hid hp
    have HP := Lib.hid hP
    have Hval := Lib.hid hval
    clear hp hP hval
    go_enter Tryz.func19, Tryz.ntmps19
    go_wp2_with fail
    refine (calls_v (isOfPlan_c _ _ _ _ _ _ Ha.out hm) (congrArg Value.bool Hp.out)).mono ?_
    rintro e w1 ⟨rfl, hq⟩
    have Hq := Lib.hid hq
    clear hq
    go_wp2
    go_loopw [20] (fun i wr => ∃ j : Nat, j ≤ plan.length ∧ i = .int .i64 j ∧ Own 5 w1.heap.size (w1.heap.size + 1) wr (some ⟨w1.heap.size, 0, none⟩) plan.length (((plan.map (ven k)).map (Value.int .u8)).take j ++ (List.replicate plan.length (.int .u8 0)).drop j) ∧ Below w1.heap.size w1 wr) (fun i _ => plan.length - (intOf i).toNat)
    case atStart => exact ⟨0, Nat.zero_le _, rfl, own_made _ _ _ _ _ (Nat.le_refl _) (by unfold maxLen; omega), (Below.refl _ _).alloc (Nat.le_refl _) _⟩
    case round =>
      obtain ⟨j, hj, rfl, ho, hb⟩ := hrel
      have Ho := Lib.hid ho
      have Hb := Lib.hid hb
      clear ho hb
      by_cases hlt : j < plan.length
      · obtain ⟨round, hx⟩ := some_of hlt
        have hl := HP.out.rlen hx
        obtain ⟨v, hv⟩ := some_of (l := round) (k := k) (by omega)
        obtain ⟨ad, a, c', rfl, _, _, hca0, hia⟩ := Ha.out.keep Hq.out.keep _ _ hx
        obtain ⟨bd, rfl, hcb0⟩ := hia _ _ hv
        have hca := keep_of_below Hb.out _ _ hca0
        have hcb : ∀ j u, (wr.setCell ⟨w1.heap.size, j, none⟩ u).cell? (bd.add k) = some (.int .i64 v) := fun j u => keep_of_below (Hb.out.setCell (p := ⟨w1.heap.size, j, none⟩) (Nat.le_refl _) u) _ _ hcb0
        have hkl : k < round.length := lt_of hv
        obtain ⟨g, hg, _, _, hcg, hfg⟩ := Ho.out.at_ (k := j) (u := .int .u8 0) (by rw [fill_at (by simp; omega)]; simp [hlt])
        obtain rfl : w1.heap.size = g := by injection hg with hg; injection hg
        have hat : ((plan.map (ven k)).map (Value.int .u8))[j]? = some (.int .u8 (if 0 < v then 72 else 65)) := by
          rw [List.getElem?_map, List.getElem?_map, hx]; simp [ven, getD_of hv, -List.getD_eq_getElem?_getD]
        have hO2 : ∀ y, Own 5 w1.heap.size (w1.heap.size + 1) ((wr.setCell ⟨w1.heap.size, j, none⟩ (.int .u8 65)).setCell ⟨w1.heap.size, j, none⟩ y) (some ⟨w1.heap.size, 0, none⟩) plan.length ((((plan.map (ven k)).map (Value.int .u8)).take j ++ (List.replicate plan.length (Value.int .u8 0)).drop j).set j y) := fun y => by
          have := (Ho.out.set_ j (.int .u8 65)).set_ j y
          rwa [List.set_set] at this
        have Hx := Lib.hid hx
        have Hl := Lib.hid hl
        have Hv := Lib.hid hv
        have Hia := Lib.hid hia
        have Hat := Lib.hid hat
        have Hca0 := Lib.hid hca0
        have Hcb0 := Lib.hid hcb0
        have HO2 := Lib.hid hO2
        clear hx hl hv hia hat hca0 hcb0 hO2
        clear hg
        by_cases hv0 : 0 < v
        · go_wp2
          go_roundw
          case rel => exact ⟨j + 1, by omega, by go_num, by rw [← fill_step Hat.out (by simpa using hlt), if_pos hv0]; exact HO2.out _, (Hb.out.setCell (p := ⟨w1.heap.size, j, none⟩) (Nat.le_refl _) _).setCell (p := ⟨w1.heap.size, j, none⟩) (Nat.le_refl _) _⟩
          case measure => simp [intOf]; omega
        · go_wp2
          go_roundw
          case rel => exact ⟨j + 1, by omega, by go_num, by rw [← fill_step Hat.out (by simpa using hlt), if_neg (by omega)]; exact Ho.out.set_ _ _, Hb.out.setCell (p := ⟨w1.heap.size, j, none⟩) (Nat.le_refl _) _⟩
          case measure => simp [intOf]; omega
      · obtain rfl : j = plan.length := by omega
        have hO := Ho.out
        rw [List.take_of_length_le (by simp), List.drop_eq_nil_of_le (by simp), List.append_nil] at hO
        have hcv := run_convert_bytes_arg (P := Tryz.prog) wr 22 5 Tryz.underlying22 Tryz.underlying5 w1.heap.size 0 plan.length plan.length (plan.map (ven k)) (by simp) (fun i hi => by
          obtain ⟨round, hx⟩ := some_of hi
          obtain ⟨g, hg, _, _, hcg, _⟩ := hO.at_ (k := i) (u := .int .u8 (ven k round)) (map_some (map_some hx))
          obtain rfl : w1.heap.size = g := by injection hg with hg; injection hg
          rw [Nat.zero_add, hcg, getD_of (map_some hx)]) 9 Tryz.underlying9
        clear hO
        go_wp2
        go_ret
        exact ⟨by rw [Hval.out]; rfl, (Hq.out.below _).trans (Hb.out.mono (Hq.out.below 0).size)⟩
end Go.Proofs.YtfkccgblgjpalaaGreat
