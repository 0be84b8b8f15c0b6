
/- Contracts: copies of plans, plans with home and away exchanged, double plans (program and reference). -/
import Derived.Test.YtfkccgblgjpalaaGreatRobin2
import Derived.Test.YtfkccgblgjpalaaGreatBase3
import Derived.WalkSpells
namespace Go.Proofs.YtfkccgblgjpalaaGreat
open Go.RowKit

theorem info_rows_ne : (3 : TypeId) ≠ 36 := by decide
set_option maxHeartbeats 400000 in
theorem clone_c (A : Option Addr) (c : Nat) (xs : List Int) (w : World) (ha : Ints w A xs) (hm : xs.length ≤ 1048576) :
    Calls Tryz.prog 61 #[.slice A xs.length c] w (GivesI 3 w xs) := by
  have Ha := Lib.hid ha
  clear ha
  have hnil := fun (W : World) (a : Option Addr) (n c : Nat) => Lib.run_eql_slice_nil (P := Tryz.prog) W 36 3 a n c 0 0 Tryz.underlying36
  cases A with
  | none =>
    obtain rfl : xs = [] := by
      cases xs with
      | nil => rfl
      | cons x t => obtain ⟨ad, e, _⟩ := Ha.out 0 x rfl; cases e
    go_enter Tryz.func61, Tryz.ntmps61
    go_wp2
    go_ret
    exact ⟨none, 0, rfl, Own.nil .., Below.refl _ _⟩
  | some ad =>
    go_enter Tryz.func61, Tryz.ntmps61
    go_wp2_with (at_builtin; refine wpList_appN rfl (.tmp 5) (.tmp 6) 36 rfl 3 (.int .i64 0) 8 Tryz.underlying36 info_int rfl w.heap.size (some ⟨w.heap.size, 0, none⟩) 0 [] ?_ ?_ (some ad) c (xs.map (.int .i64)) ?_ ?_ ?_ ?_ ?_ 0 xs.length ?_ ?_ ?_ ?_ ?_; exact ⟨by simp, by unfold maxLen; omega, .inr ⟨w.heap.size, #[], rfl, Nat.le_refl _, by simp, heap_alloc_new w _, rfl, rfl⟩⟩; simp; exact (Ha.out.keep (keep_of_below ((Below.refl _ _).alloc (Nat.le_refl _) _))).cells; exact ints_oneCell .i64 xs; decide; (simp; omega); decide; rfl; simp; rfl; rfl; intro B' d' w' ho' hb' _ _)
    go_ret
    exact ⟨B', d', by simp, by simpa using ho', ((Below.refl _ _).alloc (Nat.le_refl _) _).trans hb'⟩

theorem out_empty (TT lo : Nat) (w : World) (hlo : lo ≤ w.heap.size) : Own TT lo (w.alloc (.cells #[] TT)).heap.size (w.alloc (.cells #[] TT)) (some ⟨w.heap.size, 0, none⟩) 0 [] :=
  ⟨by simp, by unfold maxLen; omega, .inr ⟨w.heap.size, #[], rfl, hlo, by simp, heap_alloc_new w _, rfl, rfl⟩⟩

set_option maxHeartbeats 1000000 in
theorem copyPlan_c (A : Option Addr) (c : Nat) (xss : List (List Int)) (w : World) (ha : Rows w A xss) (hm : xss.length ≤ 1048576) (hm2 : ∀ xs ∈ xss, xs.length ≤ 1048576) :
    Calls Tryz.prog 47 #[.slice A xss.length c] w (GivesII 3 36 w xss) := by
  have Ha := Lib.hid ha
  have Hm2 := Lib.hid hm2
  clear ha hm2
  go_enter Tryz.func47, Tryz.ntmps47
  go_wp2
  go_loopw [3, 8] (fun v i wr => ∃ (k : Nat) (B : Option Addr) (d : Nat), k ≤ xss.length ∧ i = .int .i64 k ∧ v = .slice B k d ∧ Own2 3 36 w.heap.size wr.heap.size wr B d (xss.take k) ∧ Below w.heap.size w wr) (fun _ i _ => xss.length - (intOf i).toNat)
  case atStart => exact ⟨0, none, 0, Nat.zero_le _, rfl, rfl, Own2.nil .., Below.refl _ _⟩
  case round =>
    obtain ⟨k, B, d, hk, rfl, rfl, ho, hb⟩ := hrel
    have Ho := Lib.hid ho
    have Hb := Lib.hid hb
    clear ho hb
    by_cases hlt : k < xss.length
    · obtain ⟨xs, hx⟩ := some_of hlt
      obtain ⟨ad, a, c', rfl, _, _, hca, hia⟩ := Ha.out.keep (keep_of_below Hb.out) k xs hx
      have hl : (xss.take k).length = k := by simp; omega
      have Hx := Lib.hid hx
      have Hia := Lib.hid hia
      have Hl := Lib.hid hl
      clear hx hia hl
      go_wp2_with fail
      refine (clone_c _ _ _ _ Hia.out (Hm2.out xs (List.mem_of_getElem? Hx.out))).mono ?_
      rintro e w1 ⟨A1, c1, rfl, ho1, hb1⟩
      have Ho1 := Lib.hid ho1
      have Hb1 := Lib.hid hb1
      clear ho1 hb1
      go_wp2_with (at_builtin; refine wpList_app2 rfl (.tmp 12) (.tmp 15) 24 rfl 3 36 Tryz.underlying24 info_ints info_rows_ne w.heap.size wr.heap.size B d (xss.take k) A1 c1 xs ?_ ?_ ?_ ?_ ?_ k xs.length ?_ ?_ ?_ ?_ ?_; exact Ho.out.below Hb1.out; exact Ho1.out; exact Hb.out.size; exact Hb1.out.size; (rw [Hl.out]; omega); exact Hl.out.symm; rfl; rfl; rfl; intro B' d' w' ho' hb' hz')
      have Ho' := Lib.hid ho'
      have Hb' := Lib.hid hb'
      clear ho' hb'
      go_wp2
      go_roundw
      case rel => exact ⟨k + 1, B', d', by omega, by go_num, rfl, by rw [take_of Hx.out]; exact Ho'.out, (Hb.out.trans (Hb1.out.mono Hb.out.size)).trans Hb'.out⟩
      case measure => simp [intOf]; omega
    · obtain rfl : k = xss.length := by omega
      go_wp2
      go_ret
      have hO := Ho.out
      rw [List.take_length] at hO
      exact ⟨B, d, rfl, hO, Hb.out⟩

def neg (xs : List Int) : List Int := xs.map fun x => -x
theorem neg_neg_list (xs : List Int) : neg (neg xs) = xs := by
  unfold neg
  rw [List.map_map]
  exact (List.map_congr_left (fun x _ => by simp)).trans (List.map_id _)
def turn (xss : List (List Int)) : List (List Int) := xss.map neg
theorem turn_turn (xss : List (List Int)) : turn (turn xss) = xss := by
  unfold turn
  rw [List.map_map]
  exact (List.map_congr_left (fun x _ => neg_neg_list x)).trans (List.map_id _)
theorem neg_at {xs : List Int} {k : Nat} {x : Int} (h : xs[k]? = some x) : (neg xs)[k]? = some (-x) := map_some h
theorem turn_at {xss : List (List Int)} {k : Nat} {xs : List Int} (h : xss[k]? = some xs) : (turn xss)[k]? = some (neg xs) := map_some h

set_option maxHeartbeats 2000000 in
theorem l16Turn_c (A : Option Addr) (c : Nat) (xss : List (List Int)) (w : World) (ha : Rows w A xss) (hm : xss.length ≤ 1048576) (hm2 : ∀ xs ∈ xss, xs.length ≤ 1048576 ∧ ∀ x ∈ xs, -1000 ≤ x ∧ x ≤ 1000) :
    Calls Tryz.prog 78 #[.slice A xss.length c] w (GivesII 3 36 w (turn xss)) := by
  have Ha := Lib.hid ha
  have Hm2 := Lib.hid hm2
  clear ha hm2
  go_enter Tryz.func78, Tryz.ntmps78
  go_wp2
  go_loopw [3, 12] (fun v i wr => ∃ (k : Nat) (B : Option Addr) (d : Nat), k ≤ xss.length ∧ i = .int .i64 k ∧ v = .slice B k d ∧ Own2 3 36 w.heap.size wr.heap.size wr B d ((turn xss).take k) ∧ Below w.heap.size w wr) (fun _ i _ => xss.length - (intOf i).toNat)
  case atStart => exact ⟨0, _, 0, Nat.zero_le _, rfl, rfl, ⟨[], out_empty 36 _ w (Nat.le_refl _), Inner.nil ..⟩, (Below.refl _ _).alloc (Nat.le_refl _) _⟩
  case round =>
    obtain ⟨k, B, d, hk, rfl, rfl, ho, hb⟩ := hrel
    have Ho := Lib.hid ho
    have Hb := Lib.hid hb
    clear ho hb
    by_cases hlt : k < xss.length
    · obtain ⟨xs, hx⟩ := some_of hlt
      obtain ⟨ad, a, c', rfl, _, _, hca, hia0⟩ := Ha.out.keep (keep_of_below Hb.out) k xs hx
      obtain ⟨hxl, hxb⟩ := Hm2.out xs (List.mem_of_getElem? hx)
      have hl : ((turn xss).take k).length = k := by simp [turn]; omega
      obtain ⟨wo, hwo⟩ : ∃ wo : World, wo = wr := ⟨_, rfl⟩
      rw [← hwo] at Ho Hb hia0 hca ⊢
      clear hwo wr
      have Hx := Lib.hid hx
      have Hia0 := Lib.hid hia0
      have Hl := Lib.hid hl
      have Hxb := Lib.hid hxb
      clear hx hia0 hl hxb
      go_wp2
      go_loopw [6, 19] (fun v i wr => ∃ (j : Nat) (B' : Option Addr) (d' : Nat), j ≤ xs.length ∧ i = .int .i64 j ∧ v = .slice B' j d' ∧ Own 3 wo.heap.size wr.heap.size wr B' d' (((neg xs).take j).map (.int .i64)) ∧ Below wo.heap.size wo wr) (fun _ i _ => xs.length - (intOf i).toNat)
      case atStart => exact ⟨0, _, 0, Nat.zero_le _, rfl, rfl, out_empty 3 _ wo (Nat.le_refl _), (Below.refl _ _).alloc (Nat.le_refl _) _⟩
      case round =>
        obtain ⟨j, B', d', hj, rfl, rfl, ho1, hb1⟩ := hrel
        have Ho1 := Lib.hid ho1
        have Hb1 := Lib.hid hb1
        clear ho1 hb1
        by_cases hlt2 : j < xs.length
        · obtain ⟨x, hxx⟩ := some_of hlt2
          obtain ⟨bd, rfl, hcb⟩ := Hia0.out.keep (keep_of_below Hb1.out) j x hxx
          obtain ⟨hx1, hx2⟩ := Hxb.out x (List.mem_of_getElem? hxx)
          have hl2 : (((neg xs).take j).map (Value.int .i64)).length = j := by simp [neg]; omega
          have Hxx := Lib.hid hxx
          have Hl2 := Lib.hid hl2
          clear hxx hl2
          go_wp2_with (at_builtin; refine wpList_app1 rfl (.tmp 23) (.tmp 26) 36 rfl 3 (.int .i64 0) 8 Tryz.underlying36 info_int rfl wo.heap.size B' d' (((neg xs).take j).map (.int .i64)) ?_ ?_ (.int .i64 (-x)) rfl ?_ ?_ j ?_ ?_ ?_ ?_; exact Ho1.out; exact Hb1.out.size; (rw [Hl2.out]; omega); decide; exact Hl2.out.symm; rfl; rfl; intro B2 d2 w' ho' hb' _ _)
          have Ho' := Lib.hid ho'
          have Hb' := Lib.hid hb'
          clear ho' hb'
          go_wp2
          go_roundw
          case rel => exact ⟨j + 1, B2, d2, by omega, by go_num, rfl, by rw [take_of (neg_at Hxx.out), List.map_append]; exact Ho'.out, Hb1.out.trans Hb'.out⟩
          case measure => simp [intOf]; omega
        · obtain rfl : j = xs.length := by omega
          have ho2 : Own 3 wo.heap.size wr.heap.size wr B' d' ((neg xs).map (.int .i64)) := by
            have := Ho1.out
            rwa [List.take_of_length_le (by simp [neg])] at this
          have hnl : xs.length = (neg xs).length := by simp [neg]
          have Ho2 := Lib.hid ho2
          have Hnl := Lib.hid hnl
          clear ho2 hnl
          go_wp2_with (at_builtin; refine wpList_app2 rfl (.tmp 29) (.tmp 31) 24 rfl 3 36 Tryz.underlying24 info_ints info_rows_ne w.heap.size wo.heap.size B d ((turn xss).take k) B' d' (neg xs) ?_ ?_ ?_ ?_ ?_ k xs.length ?_ ?_ ?_ ?_ ?_; exact Ho.out.below Hb1.out; exact Ho2.out; exact Hb.out.size; exact Hb1.out.size; (rw [Hl.out]; omega); exact Hl.out.symm; exact Hnl.out; rfl; rfl; intro B2 d2 w' ho' hb' hz')
          have Ho' := Lib.hid ho'
          have Hb' := Lib.hid hb'
          clear ho' hb'
          go_wp2
          go_roundw
          case rel => exact ⟨k + 1, B2, d2, by omega, by go_num, rfl, by rw [take_of (turn_at Hx.out)]; exact Ho'.out, (Hb.out.trans (Hb1.out.mono Hb.out.size)).trans Hb'.out⟩
          case measure => simp [intOf]; omega
    · obtain rfl : k = xss.length := by omega
      go_wp2
      go_ret
      have hO := Ho.out
      rw [List.take_of_length_le (by simp [turn])] at hO
      exact ⟨B, d, by simp [turn], hO, Hb.out⟩

set_option maxHeartbeats 2000000 in
theorem turnPlan_c (A : Option Addr) (c : Nat) (xss : List (List Int)) (w : World) (ha : Rows w A xss) (hm : xss.length ≤ 1048576) (hm2 : ∀ xs ∈ xss, xs.length ≤ 1048576 ∧ ∀ x ∈ xs, -1000 ≤ x ∧ x ≤ 1000) :
    Calls Tryz.prog 48 #[.slice A xss.length c] w (GivesII 3 36 w (turn xss)) := by
  have Ha := Lib.hid ha
  have Hm2 := Lib.hid hm2
  clear ha hm2
  go_enter Tryz.func48, Tryz.ntmps48
  go_wp2_with fail
  refine (copyPlan_c _ _ _ _ Ha.out hm (fun xs h => (Hm2.out xs h).1)).mono ?_
  rintro e w1 ⟨A1, c1, rfl, ho1, hb1⟩
  have hs1 := hb1.size
  have Ho1 := Lib.hid ho1
  have Hb1 := Lib.hid hb1
  clear ho1 hb1
  go_wp2
  go_loopw [11] (fun i wr => ∃ k : Nat, k ≤ xss.length ∧ i = .int .i64 k ∧ Own2 3 36 w.heap.size w1.heap.size wr A1 c1 ((turn xss).take k ++ xss.drop k) ∧ Only w.heap.size w1.heap.size w1 wr) (fun i _ => xss.length - (intOf i).toNat)
  case atStart => exact ⟨0, Nat.zero_le _, rfl, Ho1.out, Only.refl ..⟩
  case round =>
    obtain ⟨k, hk, rfl, ho, hb⟩ := hrel
    have Ho := Lib.hid ho
    have Hb := Lib.hid hb
    clear ho hb
    by_cases hlt : k < xss.length
    · obtain ⟨xs, hx⟩ := some_of hlt
      obtain ⟨ad, a, c', g, rfl, hca, ho2, hput⟩ := Ho.out.row (by decide) Hb.out.size (k := k) (xs := xs) (by rw [fill_at (by simp [turn]; omega)]; exact hx)
      obtain ⟨hxl, hxb⟩ := Hm2.out xs (List.mem_of_getElem? hx)
      obtain ⟨wo, hwo⟩ : ∃ wo : World, wo = wr := ⟨_, rfl⟩
      rw [← hwo] at Ho Hb ho2 hput hca ⊢
      clear hwo wr
      have Hx := Lib.hid hx
      have Ho2 := Lib.hid ho2
      have Hput := Lib.hid hput
      have Hxb := Lib.hid hxb
      clear hx ho2 hput hxb
      go_wp2
      go_loopw [17] (fun i wr => ∃ j : Nat, j ≤ xs.length ∧ i = .int .i64 j ∧ Own 3 g (g + 1) wr a c' (((neg xs).take j ++ xs.drop j).map (.int .i64)) ∧ Only g (g + 1) wo wr) (fun i _ => xs.length - (intOf i).toNat)
      case atStart => exact ⟨0, Nat.zero_le _, rfl, Ho2.out, Only.refl ..⟩
      case round =>
        obtain ⟨j, hj, rfl, ho3, hb3⟩ := hrel
        have Ho3 := Lib.hid ho3
        have Hb3 := Lib.hid hb3
        clear ho3 hb3
        by_cases hlt2 : j < xs.length
        · obtain ⟨x, hxx⟩ := some_of hlt2
          obtain ⟨hx1, hx2⟩ := Hxb.out x (List.mem_of_getElem? hxx)
          obtain ⟨g', rfl, hg1, hg2, hcb, hfb⟩ := ownr Ho3.out (k := j) (x := x) (by rw [fill_at (by simp [neg]; omega)]; exact hxx)
          have Hxx := Lib.hid hxx
          clear hxx
          go_wp2
          go_roundw
          case rel => exact ⟨j + 1, by omega, by go_num, by rw [← fill_step (neg_at Hxx.out) hlt2]; exact Ho3.out.seti j _, Hb3.out.setCell hg1 hg2 _⟩
          case measure => simp [intOf]; omega
        · obtain rfl : j = xs.length := by omega
          have ho4 := Ho3.out
          rw [List.take_of_length_le (by simp [neg]), List.drop_length, List.append_nil] at ho4
          have hp := Hput.out wr (neg xs) (by simp [neg]) Hb3.out ho4
          rw [fill_step (turn_at Hx.out) hlt] at hp
          have Hp := Lib.hid hp
          clear hp
          clear ho4
          go_wp2
          go_roundw
          case rel => exact ⟨k + 1, by omega, by go_num, Hp.out.1, Hb.out.trans Hp.out.2⟩
          case measure => simp [intOf]; omega
    · obtain rfl : k = xss.length := by omega
      go_wp2
      go_ret
      have hO := Ho.out
      rw [List.take_of_length_le (by simp [turn]), List.drop_length, List.append_nil] at hO
      exact ⟨A1, c1, by simp [turn], hO.wide (Nat.le_refl _) Hb.out.size, Hb1.out.trans (below_of_only Hb.out (Nat.le_refl _) hs1)⟩

/-! ### The exported functions -/
def turnOf (n : Int) (plan : List (List Int)) : List (List Int) := if planOk n plan then turn plan else []
theorem plan_small {n : Int} {plan : List (List Int)} (h : Plan n plan) : ∀ xs ∈ plan, xs.length ≤ 1048576 ∧ ∀ x ∈ xs, -1000 ≤ x ∧ x ≤ 1000 := fun xs hx => by
  obtain ⟨i, hi⟩ := List.getElem?_of_mem hx
  have h1 := h.rlen hi
  have h2 := h.ten
  refine ⟨by omega, fun x hxx => ?_⟩
  obtain ⟨k, hk⟩ := List.getElem?_of_mem hxx
  have h3 := (h.cell hi hk).lo
  have h4 := (h.cell hi hk).hi
  omega

set_option maxHeartbeats 1000000 in
theorem iTurnPlan_c (n : Int) (A : Option Addr) (c : Nat) (plan : List (List Int)) (w : World) (ha : Rows w A plan) (hm : plan.length ≤ 1048576) :
    Calls Tryz.prog 16 #[.int .i64 n, .slice A plan.length c] w (GivesII 3 36 w (turnOf n plan)) := by
  have Ha := Lib.hid ha
  clear ha
  cases hp : planOk n plan
  · have hv : turnOf n plan = [] := by rw [turnOf, if_neg (by simp [hp])]
    rw [hv]
    have Hp := Lib.hid hp
    clear hp
    clear hv
    go_enter Tryz.func16, Tryz.ntmps16
    go_wp2_with fail
    refine (calls_v (iPlanOk_c _ _ _ _ _ Ha.out hm) (congrArg Value.bool Hp.out)).mono ?_
    rintro e w1 ⟨rfl, hq⟩
    go_wp2
    go_ret
    exact ⟨none, 0, rfl, Own2.nil .., hq.below _⟩
  · have hP := plan_of hp
    have hv : turnOf n plan = turn plan := by rw [turnOf, if_pos hp]
    rw [hv]
    have Hp := Lib.hid hp
    have HP := Lib.hid hP
    clear hp hP
    clear hv
    go_enter Tryz.func16, Tryz.ntmps16
    go_wp2_with fail
    refine (calls_v (iPlanOk_c _ _ _ _ _ Ha.out hm) (congrArg Value.bool Hp.out)).mono ?_
    rintro e w1 ⟨rfl, hq⟩
    have Hq := Lib.hid hq
    clear hq
    go_wp2_with fail
    refine (turnPlan_c _ _ _ _ (Ha.out.keep Hq.out.keep) hm (plan_small HP.out)).mono ?_
    rintro e w2 ⟨B, d, rfl, ho, hb⟩
    have Ho := Lib.hid ho
    have Hb := Lib.hid hb
    clear ho hb
    go_wp2
    go_ret
    exact ⟨B, d, rfl, Ho.out.wide (Hq.out.below 0).size (Nat.le_refl _), (Hq.out.below _).trans (Hb.out.mono (Hq.out.below 0).size)⟩

end Go.Proofs.YtfkccgblgjpalaaGreat
