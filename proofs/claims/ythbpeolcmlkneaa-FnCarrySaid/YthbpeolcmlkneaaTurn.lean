/- Contracts: copies of plans, plans with home and away exchanged, double plans (program and reference). -/
import Derived.Test.YthbpeolcmlkneaaRobin2
import Derived.Test.YthbpeolcmlkneaaBase3
import Derived.WalkSpells
namespace Go.Proofs.Ythbpeolcmlkneaa
open Go.RowKit

theorem info_rows_ne : (3 : TypeId) ≠ 38 := by decide
set_option maxHeartbeats 400000 in
theorem clone_c (A : Option Addr) (c : Nat) (xs : List Int) (w : World) (ha : Ints w A xs) (hm : xs.length ≤ 1048576) :
    Calls Try.prog 64 #[.slice A xs.length c] w (GivesI 3 w xs) := by
  have Ha := Lib.hid ha
  clear ha
  have hnil := fun (W : World) (a : Option Addr) (n c : Nat) => Lib.run_eql_slice_nil (P := Try.prog) W 38 3 a n c 0 0 Try.underlying38
  cases A with
  | none =>
    obtain rfl : xs = [] := by
      cases xs with
      | nil => rfl
      | cons x t => obtain ⟨ad, e, _⟩ := Ha.out 0 x rfl; cases e
    go_enter Try.func64, Try.ntmps64
    go_wp2
    go_ret
    exact ⟨none, 0, rfl, Own.nil .., Below.refl _ _⟩
  | some ad =>
    go_enter Try.func64, Try.ntmps64
    go_wp2_with (at_builtin; refine wpList_appN rfl (.tmp 5) (.tmp 6) 38 rfl 3 (.int .i64 0) 8 Try.underlying38 info_int rfl w.heap.size (some ⟨w.heap.size, 0, none⟩) 0 [] ?_ ?_ (some ad) c (xs.map (.int .i64)) ?_ ?_ ?_ ?_ ?_ 0 xs.length ?_ ?_ ?_ ?_ ?_; exact ⟨by simp, by unfold maxLen; omega, .inr ⟨w.heap.size, #[], rfl, Nat.le_refl _, by simp, heap_alloc_new w _, rfl, rfl⟩⟩; simp; exact (Ha.out.keep (keep_of_below ((Below.refl _ _).alloc (Nat.le_refl _) _))).cells; exact ints_oneCell .i64 xs; decide; (simp; omega); decide; rfl; simp; rfl; rfl; intro B' d' w' ho' hb' _ _)
    go_ret
    exact ⟨B', d', by simp, by simpa using ho', ((Below.refl _ _).alloc (Nat.le_refl _) _).trans hb'⟩

theorem out_empty (TT lo : Nat) (w : World) (hlo : lo ≤ w.heap.size) : Own TT lo (w.alloc (.cells #[] TT)).heap.size (w.alloc (.cells #[] TT)) (some ⟨w.heap.size, 0, none⟩) 0 [] :=
  ⟨by simp, by unfold maxLen; omega, .inr ⟨w.heap.size, #[], rfl, hlo, by simp, heap_alloc_new w _, rfl, rfl⟩⟩

set_option maxHeartbeats 1000000 in
theorem copyPlan_c (A : Option Addr) (c : Nat) (xss : List (List Int)) (w : World) (ha : Rows w A xss) (hm : xss.length ≤ 1048576) (hm2 : ∀ xs ∈ xss, xs.length ≤ 1048576) :
    Calls Try.prog 50 #[.slice A xss.length c] w (GivesII 3 38 w xss) := by
  have Ha := Lib.hid ha
  have Hm2 := Lib.hid hm2
  clear ha hm2
  go_enter Try.func50, Try.ntmps50
  go_wp2
  go_loopw [3, 8] (fun v i wr => ∃ (k : Nat) (B : Option Addr) (d : Nat), k ≤ xss.length ∧ i = .int .i64 k ∧ v = .slice B k d ∧ Own2 3 38 w.heap.size wr.heap.size wr B d (xss.take k) ∧ Below w.heap.size w wr) (fun _ i _ => xss.length - (intOf i).toNat)
  case atStart => exact ⟨0, none, 0, Nat.zero_le _, rfl, rfl, Own2.nil .., Below.refl _ _⟩
  case round =>
    obtain ⟨k, B, d, hk, rfl, rfl, ho, hb⟩ := hrel
    have Ho := Lib.hid ho
    have Hb := Lib.hid hb
    clear ho hb
    by_cases hlt : k < xss.length
    · obtain ⟨xs, hx⟩ := some_of hlt
      obtain ⟨ad, a, c', rfl, _, _, hca, hia⟩ := Ha.out.keep (keep_of_below Hb.out) k xs hx
      have hl : (xss.take k).length = k := by simp; omega
      have Hx := Lib.hid hx
      have Hia := Lib.hid hia
      have Hl := Lib.hid hl
      clear hx hia hl
      go_wp2_with fail
      refine (clone_c _ _ _ _ Hia.out (Hm2.out xs (List.mem_of_getElem? Hx.out))).mono ?_
      rintro e w1 ⟨A1, c1, rfl, ho1, hb1⟩
      have Ho1 := Lib.hid ho1
      have Hb1 := Lib.hid hb1
      clear ho1 hb1
      go_wp2_with (at_builtin; refine wpList_app2 rfl (.tmp 12) (.tmp 15) 22 rfl 3 38 Try.underlying22 info_ints info_rows_ne w.heap.size wr.heap.size B d (xss.take k) A1 c1 xs ?_ ?_ ?_ ?_ ?_ k xs.length ?_ ?_ ?_ ?_ ?_; exact Ho.out.below Hb1.out; exact Ho1.out; exact Hb.out.size; exact Hb1.out.size; (rw [Hl.out]; omega); exact Hl.out.symm; rfl; rfl; rfl; intro B' d' w' ho' hb' hz')
      have Ho' := Lib.hid ho'
      have Hb' := Lib.hid hb'
      clear ho' hb'
      go_wp2
      go_roundw
      case rel => exact ⟨k + 1, B', d', by omega, by go_num, rfl, by rw [take_of Hx.out]; exact Ho'.out, (Hb.out.trans (Hb1.out.mono Hb.out.size)).trans Hb'.out⟩
      case measure => simp [intOf]; omega
    · obtain rfl : k = xss.length := by omega
      go_wp2
      go_ret
      have hO := Ho.out
      rw [List.take_length] at hO
      exact ⟨B, d, rfl, hO, Hb.out⟩

def neg (xs : List Int) : List Int := xs.map fun x => -x
theorem neg_neg_list (xs : List Int) : neg (neg xs) = xs := by
  unfold neg
  rw [List.map_map]
  exact (List.map_congr_left (fun x _ => by simp)).trans (List.map_id _)
def turn (xss : List (List Int)) : List (List Int) := xss.map neg
theorem turn_turn (xss : List (List Int)) : turn (turn xss) = xss := by
  unfold turn
  rw [List.map_map]
  exact (List.map_congr_left (fun x _ => neg_neg_list x)).trans (List.map_id _)
theorem neg_at {xs : List Int} {k : Nat} {x : Int} (h : xs[k]? = some x) : (neg xs)[k]? = some (-x) := map_some h
theorem turn_at {xss : List (List Int)} {k : Nat} {xs : List Int} (h : xss[k]? = some xs) : (turn xss)[k]? = some (neg xs) := map_some h

set_option maxHeartbeats 2000000 in
theorem l16Turn_c (A : Option Addr) (c : Nat) (xss : List (List Int)) (w : World) (ha : Rows w A xss) (hm : xss.length ≤ 1048576) (hm2 : ∀ xs ∈ xss, xs.length ≤ 1048576 ∧ ∀ x ∈ xs, -1000 ≤ x ∧ x ≤ 1000) :
    Calls Try.prog 48 #[.slice A xss.length c] w (GivesII 3 38 w (turn xss)) := by
  have Ha := Lib.hid ha
  have Hm2 := Lib.hid hm2
  clear ha hm2
  go_enter Try.func48, Try.ntmps48
  go_wp2
  go_loopw [3, 12] (fun v i wr => ∃ (k : Nat) (B : Option Addr) (d : Nat), k ≤ xss.length ∧ i = .int .i64 k ∧ v = .slice B k d ∧ Own2 3 38 w.heap.size wr.heap.size wr B d ((turn xss).take k) ∧ Below w.heap.size w wr) (fun _ i _ => xss.length - (intOf i).toNat)
  case atStart => exact ⟨0, _, 0, Nat.zero_le _, rfl, rfl, ⟨[], out_empty 38 _ w (Nat.le_refl _), Inner.nil ..⟩, (Below.refl _ _).alloc (Nat.le_refl _) _⟩
  case round =>
    obtain ⟨k, B, d, hk, rfl, rfl, ho, hb⟩ := hrel
    have Ho := Lib.hid ho
    have Hb := Lib.hid hb
    clear ho hb
    by_cases hlt : k < xss.length
    · obtain ⟨xs, hx⟩ := some_of hlt
      obtain ⟨ad, a, c', rfl, _, _, hca, hia0⟩ := Ha.out.keep (keep_of_below Hb.out) k xs hx
      obtain ⟨hxl, hxb⟩ := Hm2.out xs (List.mem_of_getElem? hx)
      have hl : ((turn xss).take k).length = k := by simp [turn]; omega
      obtain ⟨wo, hwo⟩ : ∃ wo : World, wo = wr := ⟨_, rfl⟩
      rw [← hwo] at Ho Hb hia0 hca ⊢
      clear hwo wr
      have Hx := Lib.hid hx
      have Hia0 := Lib.hid hia0
      have Hl := Lib.hid hl
      have Hxb := Lib.hid hxb
      clear hx hia0 hl hxb
      go_wp2
      go_loopw [6, 19] (fun v i wr => ∃ (j : Nat) (B' : Option Addr) (d' : Nat), j ≤ xs.length ∧ i = .int .i64 j ∧ v = .slice B' j d' ∧ Own 3 wo.heap.size wr.heap.size wr B' d' (((neg xs).take j).map (.int .i64)) ∧ Below wo.heap.size wo wr) (fun _ i _ => xs.length - (intOf i).toNat)
      case atStart => exact ⟨0, _, 0, Nat.zero_le _, rfl, rfl, out_empty 3 _ wo (Nat.le_refl _), (Below.refl _ _).alloc (Nat.le_refl _) _⟩
      case round =>
        obtain ⟨j, B', d', hj, rfl, rfl, ho1, hb1⟩ := hrel
        have Ho1 := Lib.hid ho1
        have Hb1 := Lib.hid hb1
        clear ho1 hb1
        by_cases hlt2 : j < xs.length
        · obtain ⟨x, hxx⟩ := some_of hlt2
          obtain ⟨bd, rfl, hcb⟩ := Hia0.out.keep (keep_of_below Hb1.out) j x hxx
          obtain ⟨hx1, hx2⟩ := Hxb.out x (List.mem_of_getElem? hxx)
          have hl2 : (((neg xs).take j).map (Value.int .i64)).length = j := by simp [neg]; omega
          have Hxx := Lib.hid hxx
          have Hl2 := Lib.hid hl2
          clear hxx hl2
          go_wp2_with (at_builtin; refine wpList_app1 rfl (.tmp 23) (.tmp 26) 38 rfl 3 (.int .i64 0) 8 Try.underlying38 info_int rfl wo.heap.size B' d' (((neg xs).take j).map (.int .i64)) ?_ ?_ (.int .i64 (-x)) rfl ?_ ?_ j ?_ ?_ ?_ ?_; exact Ho1.out; exact Hb1.out.size; (rw [Hl2.out]; omega); decide; exact Hl2.out.symm; rfl; rfl; intro B2 d2 w' ho' hb' _ _)
          have Ho' := Lib.hid ho'
          have Hb' := Lib.hid hb'
          clear ho' hb'
          go_wp2
          go_roundw
          case rel => exact ⟨j + 1, B2, d2, by omega, by go_num, rfl, by rw [take_of (neg_at Hxx.out), List.map_append]; exact Ho'.out, Hb1.out.trans Hb'.out⟩
          case measure => simp [intOf]; omega
        · obtain rfl : j = xs.length := by omega
          have ho2 : Own 3 wo.heap.size wr.heap.size wr B' d' ((neg xs).map (.int .i64)) := by
            have := Ho1.out
            rwa [List.take_of_length_le (by simp [neg])] at this
          have hnl : xs.length = (neg xs).length := by simp [neg]
          have Ho2 := Lib.hid ho2
          have Hnl := Lib.hid hnl
          clear ho2 hnl
          go_wp2_with (at_builtin; refine wpList_app2 rfl (.tmp 29) (.tmp 31) 22 rfl 3 38 Try.underlying22 info_ints info_rows_ne w.heap.size wo.heap.size B d ((turn xss).take k) B' d' (neg xs) ?_ ?_ ?_ ?_ ?_ k xs.length ?_ ?_ ?_ ?_ ?_; exact Ho.out.below Hb1.out; exact Ho2.out; exact Hb.out.size; exact Hb1.out.size; (rw [Hl.out]; omega); exact Hl.out.symm; exact Hnl.out; rfl; rfl; intro B2 d2 w' ho' hb' hz')
          have Ho' := Lib.hid ho'
          have Hb' := Lib.hid hb'
          clear ho' hb'
          go_wp2
          go_roundw
          case rel => exact ⟨k + 1, B2, d2, by omega, by go_num, rfl, by rw [take_of (turn_at Hx.out)]; exact Ho'.out, (Hb.out.trans (Hb1.out.mono Hb.out.size)).trans Hb'.out⟩
          case measure => simp [intOf]; omega
    · obtain rfl : k = xss.length := by omega
      go_wp2
      go_ret
      have hO := Ho.out
      rw [List.take_of_length_le (by simp [turn])] at hO
      exact ⟨B, d, by simp [turn], hO, Hb.out⟩

/-! ### The exported functions -/
def turnOf (n : Int) (plan : List (List Int)) : List (List Int) := if planOk n plan then turn plan else []
theorem plan_small {n : Int} {plan : List (List Int)} (h : Plan n plan) : ∀ xs ∈ plan, xs.length ≤ 1048576 ∧ ∀ x ∈ xs, -1000 ≤ x ∧ x ≤ 1000 := fun xs hx => by
  obtain ⟨i, hi⟩ := List.getElem?_of_mem hx
  have h1 := h.rlen hi
  have h2 := h.ten
  refine ⟨by omega, fun x hxx => ?_⟩
  obtain ⟨k, hk⟩ := List.getElem?_of_mem hxx
  have h3 := (h.cell hi hk).lo
  have h4 := (h.cell hi hk).hi
  omega

end Go.Proofs.Ythbpeolcmlkneaa
