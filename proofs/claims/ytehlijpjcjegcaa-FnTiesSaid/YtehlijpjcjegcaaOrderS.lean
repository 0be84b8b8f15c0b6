/- Contract: the order by keys (reference): l09Order. -/
import Derived.Test.YtehlijpjcjegcaaSortI
namespace Go.Proofs.Ytehlijpjcjegcaa
open Go.RowKit
set_option linter.unusedVariables false
set_option linter.unusedSimpArgs false

def keyOf (l : List Int) (a : Nat) : Int := l.getD a 0
def orderF (l : List Int) : List Nat := insAll (byKey (keyOf l)) l.length
theorem nums_take (l : List Nat) (k : Nat) : (nums l).take k = nums (l.take k) := by rw [nums, nums, List.map_take]
theorem nums_drop (l : List Nat) (k : Nat) : (nums l).drop k = nums (l.drop k) := by rw [nums, nums, List.map_drop]
theorem nums_append (a b : List Nat) : nums a ++ nums b = nums (a ++ b) := by rw [nums, nums, nums, List.map_append]
theorem nums_len (l : List Nat) : (nums l).length = l.length := by rw [nums, List.length_map]
theorem vals_len (l : List Nat) : ((nums l).map (Value.int .i64)).length = l.length := by rw [List.length_map, nums_len]
theorem ints_back {w : World} {g q c : Nat} {xs : List Int} (h : Ints w (some ⟨g, 0, none⟩) xs) (hc : xs.length ≤ c) :
    Ints w (if c = q then some ⟨g, 0, none⟩ else some ⟨g, q, none⟩) (xs.drop q) := by
  intro k u hk
  rw [List.getElem?_drop] at hk
  have := lt_of hk
  rw [if_neg (by omega)]
  obtain ⟨ad, e, hcell⟩ := h _ u hk
  injection e with e
  subst e
  refine ⟨_, rfl, ?_⟩
  rw [addr_zero_add] at hcell
  have e2 : (⟨g, q, none⟩ : Addr).add k = ⟨g, q + k, none⟩ := by unfold Addr.add; split <;> simp_all
  rw [e2]; exact hcell
theorem ints_take {w : World} {A : Option Addr} {xs : List Int} (h : Ints w A xs) (k : Nat) : Ints w A (xs.take k) := fun j u hu => by
  rw [List.getElem?_take] at hu
  split at hu
  · exact h j u hu
  · cases hu
theorem new_empty (TT lo : Nat) (w : World) (hlo : lo ≤ w.heap.size) : Own TT lo (w.alloc (.cells #[] TT)).heap.size (w.alloc (.cells #[] TT)) (some ⟨w.heap.size, 0, none⟩) 0 [] :=
  ⟨by simp, by unfold maxLen; omega, .inr ⟨w.heap.size, #[], rfl, hlo, by simp, heap_alloc_new w _, rfl, rfl⟩⟩

set_option maxHeartbeats 8000000 in
theorem l09Order_c (A : Option Addr) (c : Nat) (l : List Int) (w : World) (ha : Ints w A l) (hl : l.length ≤ 40) :
    Calls Try.prog 86 #[.slice A l.length c] w (GivesI 3 w (nums (orderF l))) := by
  obtain ⟨R, hR⟩ : ∃ R, orderF l = R := ⟨_, rfl⟩
  rw [hR]
  obtain ⟨n, hn⟩ : ∃ n, l.length = n := ⟨_, rfl⟩
  rw [hn] at hl ⊢
  have Ha := Lib.hid ha
  have HR := Lib.hid hR
  have Hn := Lib.hid hn
  clear ha hR hn
  go_enter Try.func86, Try.ntmps86
  go_wp2
  go_loopw [3, 11] (fun v t wr => ∃ (i g d : Nat), i ≤ n ∧ t = .int .i64 i ∧ v = .slice (some ⟨g, 0, none⟩) i d ∧ Own 3 w.heap.size wr.heap.size wr (some ⟨g, 0, none⟩) d ((nums (insAll (byKey (keyOf l)) i)).map (.int .i64)) ∧ Below w.heap.size w wr) (fun _ t _ => n - (intOf t).toNat)
  case atStart => exact ⟨0, _, 0, Nat.zero_le _, rfl, rfl, new_empty 3 w.heap.size w (Nat.le_refl _), (Below.refl _ _).alloc (Nat.le_refl _) _⟩
  case round =>
    obtain ⟨i, g, d, hi, rfl, rfl, ho, hb⟩ := hrel
    by_cases hlt : i < n
    · obtain ⟨x, hx⟩ := some_of (l := l) (k := i) (by rw [Hn.out]; exact hlt)
      have hii : (i : Int) < (n : Int) := by omega
      obtain ⟨ad, rfl, hcx⟩ := Ha.out.keep (keep_of_below hb) i x hx
      have hkx : keyOf l i = x := by rw [keyOf, List.getD_eq_getElem?_getD, hx]; rfl
      obtain ⟨O, hO⟩ : ∃ O, insAll (byKey (keyOf l)) i = O := ⟨_, rfl⟩
      have hOl : O.length = i := by rw [← hO, insAll_len]
      have hOm : ∀ a ∈ O, a < i := fun a h => by rw [← hO] at h; exact insAll_lt h
      rw [hO] at ho
      obtain ⟨K, hK⟩ : ∃ K, stay (fun b => byKey (keyOf l) b i) O O.length = K := ⟨_, rfl⟩
      have hKl : K ≤ i := by rw [← hK, ← hOl]; exact stay_le _ _ _
      have hK2 : stay (fun b => byKey (keyOf l) b i) O i = K := by rw [hOl] at hK; exact hK
      have hnext : insAll (byKey (keyOf l)) (i + 1) = O.take K ++ i :: O.drop K := by rw [insAll, ins, hO, hK]; rfl
      have hid : i ≤ d := by have := ho.1; rw [vals_len, hOl] at this; exact this
      have hdm : d ≤ maxLen := ho.2.1
      unfold maxLen at hdm
      obtain ⟨B, hB⟩ : ∃ B : Option Addr, (if d = K then some (⟨g, 0, none⟩ : Addr) else some ⟨g, K, none⟩) = B := ⟨_, rfl⟩
      have hsrc1 : Ints wr (some ⟨g, 0, none⟩) (nums (O.take K)) := by rw [← nums_take]; exact ints_take ho.ints K
      have hsrc2 : Ints wr B (nums (O.drop K)) := by rw [← nums_drop, ← hB]; exact ints_back ho.ints (by rw [nums_len, hOl]; exact hid)
      have hKi : (K : Int) ≤ (i : Int) := by omega
      have hKd : (K : Int) ≤ (d : Int) := by omega
      obtain ⟨wo, hwo⟩ : ∃ wo : World, wo = wr := ⟨_, rfl⟩
      rw [← hwo] at ho hb hcx hsrc1 hsrc2 ⊢
      have Ho := Lib.hid ho
      have Hb := Lib.hid hb
      have Hx := Lib.hid hx
      have HO := Lib.hid hO
      have HOm := Lib.hid hOm
      have HK := Lib.hid hK
      have HK2 := Lib.hid hK2
      have Hnext := Lib.hid hnext
      have Hkx := Lib.hid hkx
      have HOl := Lib.hid hOl
      have Hsrc1 := Lib.hid hsrc1
      have Hsrc2 := Lib.hid hsrc2
      clear ho hb hx hO hOm hK hK2 hnext hkx hOl hsrc1 hsrc2
      clear hwo wr
      go_wp2
      clear hcx
      go_loop [6] (fun s => ∃ k : Nat, k ≤ i ∧ s = .int .i64 k ∧ stay (fun b => byKey (keyOf l) b i) O k = K) (fun s => (intOf s).toNat)
      case atStart => exact ⟨i, Nat.le_refl _, rfl, HK2.out⟩
      case round =>
        obtain ⟨k, hk, rfl, hS⟩ := hrel
        by_cases hk0 : k = 0
        · have hK0 : K = k := by rw [← hS, hk0]; rfl
          subst hK0
          have hd1 : decide ((0 : Int) < (K : Int)) = false := by rw [decide_eq_false_iff_not]; omega
          have hd2 : decide (0 < K) = false := by rw [decide_eq_false_iff_not]; omega
          have hd3 : ¬ 0 < K := by omega
          have Hk0 := Lib.hid hk0
          clear hk0
          clear hS
          go_wp2_with (at_builtin; first | (refine wpList_appN rfl (.tmp 34) (.tmp 37) 33 rfl 3 (.int .i64 0) 8 Try.underlying33 info_int rfl wo.heap.size (some ⟨wo.heap.size, 0, none⟩) 0 [] ?_ ?_ (some ⟨g, 0, none⟩) d ((nums (O.take K)).map (.int .i64)) ?_ ?_ ?_ ?_ ?_ 0 K ?_ ?_ ?_ ?_ ?_; exact new_empty 3 wo.heap.size wo (Nat.le_refl _); simp; exact (Hsrc1.out.keep (keep_of_below ((Below.refl _ _).alloc (Nat.le_refl _) _))).cells; exact ints_oneCell .i64 _; decide; (rw [vals_len, List.length_take]; omega); decide; rfl; (rw [vals_len, List.length_take, HOl.out]; omega); rfl; rfl; rw [List.nil_append, Nat.zero_add]; intro A1 c1 w1 ho1 hb1 _ hz1; have hs1 : wo.heap.size ≤ w1.heap.size := Nat.le_trans (by simp) hz1; have hbw1 := ((Below.refl wo.heap.size wo).alloc (Nat.le_refl _) (.cells #[] 3)).trans hb1; have hl1 : (O.take K).length = K := (by rw [List.length_take, HOl.out]; omega); have Ho1 := Lib.hid ho1; have Hbw1 := Lib.hid hbw1; have Hl1 := Lib.hid hl1; clear ho1 hb1 hbw1 hl1) | (refine wpList_app1 rfl (.tmp 39) (.tmp 41) 33 rfl 3 (.int .i64 0) 8 Try.underlying33 info_int rfl wo.heap.size A1 c1 ((nums (O.take K)).map (.int .i64)) ?_ ?_ (.int .i64 (i : Int)) rfl ?_ ?_ K ?_ ?_ ?_ ?_; exact Ho1.out; exact hs1; (rw [vals_len, Hl1.out]; omega); decide; (rw [vals_len, Hl1.out]); rfl; rfl; have hv2 : (nums (O.take K)).map (Value.int .i64) ++ [Value.int .i64 (i : Int)] = (nums (O.take K ++ [i])).map (.int .i64) := (by rw [← nums_append, List.map_append]; rfl); rw [hv2]; clear hv2; intro A2 c2 w2 ho2 hb2 _ hz2; have hs2 : wo.heap.size ≤ w2.heap.size := Nat.le_trans hs1 hz2; have hbw2 := Hbw1.out.trans hb2; have hsr2 := Hsrc2.out.keep (keep_of_below hbw2); have Ho2 := Lib.hid ho2; have Hbw2 := Lib.hid hbw2; have Hsr2 := Lib.hid hsr2; clear ho2 hb2 hbw2 hsr2) | (refine wpList_appN rfl (.tmp 43) (.tmp 46) 33 rfl 3 (.int .i64 0) 8 Try.underlying33 info_int rfl wo.heap.size A2 c2 ((nums (O.take K ++ [i])).map (.int .i64)) ?_ ?_ B (d - K) ((nums (O.drop K)).map (.int .i64)) ?_ ?_ ?_ ?_ ?_ (K + 1) (i - K) ?_ ?_ ?_ ?_ ?_; exact Ho2.out; exact hs2; exact Hsr2.out.cells; exact ints_oneCell .i64 _; (rw [vals_len, List.length_append, Hl1.out]; simp; omega); (rw [vals_len, List.length_drop, HOl.out]; omega); decide; (rw [vals_len, List.length_append, Hl1.out]; rfl); (rw [vals_len, List.length_drop, HOl.out]); rfl; rfl; have hv3 : (nums (O.take K ++ [i])).map (Value.int .i64) ++ (nums (O.drop K)).map (Value.int .i64) = (nums (insAll (byKey (keyOf l)) (i + 1))).map (.int .i64) := (by rw [Hnext.out, ← List.map_append, nums_append, List.append_assoc]; rfl); have hln : K + 1 + (i - K) = i + 1 := (by omega); rw [hv3, hln]; clear hv3 hln; intro A3 c3 w3 ho3 hb3 _ hz3; have Ho3 := Lib.hid ho3; have Hb3 := Lib.hid hb3; clear ho3 hb3))
          obtain ⟨g3, hA3, _, _, _, _⟩ := Ho3.out.at_ (k := 0) (u := (((nums (insAll (byKey (keyOf l)) (i + 1))).map (Value.int .i64))[0]'(by rw [vals_len, insAll_len]; omega))) (List.getElem?_eq_getElem _)
          subst hA3
          have hb4 := Hb.out.trans ((Hbw2.out.trans Hb3.out).mono Hb.out.size)
          have ho4 := Ho3.out.wide (lo' := w.heap.size) Hb.out.size (Nat.le_refl _)
          have Ho4 := Lib.hid ho4
          have Hb4 := Lib.hid hb4
          clear ho4 hb4
          go_roundw
          case rel => exact ⟨i + 1, g3, c3, by omega, by go_num, rfl, Ho4.out, Hb4.out⟩
          case measure => simp [intOf]; omega
        · obtain ⟨k, rfl⟩ : ∃ k', k = k' + 1 := ⟨k - 1, by omega⟩
          clear hk0
          obtain ⟨y, hy⟩ := some_of (l := O) (k := k) (by rw [HOl.out]; omega)
          have hyi := HOm.out y (List.mem_of_getElem? hy)
          have hyg : O.getD k 0 = y := by rw [List.getD_eq_getElem?_getD, hy]; rfl
          obtain ⟨g1, e1, _, _, cy, _⟩ := ownr Ho.out (nums_at hy)
          obtain rfl : g = g1 := by injection e1 with e1; injection e1
          obtain ⟨z, hz⟩ := some_of (l := l) (k := y) (by rw [Hn.out]; omega)
          have hzg : keyOf l y = z := by rw [keyOf, List.getD_eq_getElem?_getD, hz]; rfl
          obtain ⟨ad', e2, hcz⟩ := Ha.out.keep (keep_of_below Hb.out) y z hz
          obtain rfl : ad = ad' := by injection e2
          have hyn : y < n := by omega
          have wk : IntKind.i64.wrap ((k : Int) + 1 - 1) = (k : Int) := by rw [IntWalk.i64_in _ (by omega)]; omega
          have hd1 : decide ((0 : Int) < (k : Int) + 1) = true := by rw [decide_eq_true_iff]; omega
          have hkd : k < d := by omega
          clear e1 e2
          by_cases hzx : z < x
          · have hS2 : stay (fun b => byKey (keyOf l) b i) O k = K := by rw [← hS, stay_hit (by rw [hyg, byKey, hzg, Hkx.out]; simpa using hzx)]
            have HS := Lib.hid hS
            have HS2 := Lib.hid hS2
            have Hy := Lib.hid hy
            have Hyg := Lib.hid hyg
            have Hz := Lib.hid hz
            have Hzg := Lib.hid hzg
            clear hS hS2 hy hyg hz hzg
            go_wp2
            go_round
            case rel => exact ⟨k, by omega, rfl, HS2.out⟩
            case measure => simp [intOf]
          · have hK3 : K = k + 1 := by rw [← hS, stay_stop (by rw [hyg, byKey, hzg, Hkx.out]; simpa using hzx)]
            subst hK3
            have HS := Lib.hid hS
            have Hy := Lib.hid hy
            have Hyg := Lib.hid hyg
            have Hz := Lib.hid hz
            have Hzg := Lib.hid hzg
            clear hS hy hyg hz hzg
            go_wp2_with (at_builtin; first | (refine wpList_appN rfl (.tmp 34) (.tmp 37) 33 rfl 3 (.int .i64 0) 8 Try.underlying33 info_int rfl wo.heap.size (some ⟨wo.heap.size, 0, none⟩) 0 [] ?_ ?_ (some ⟨g, 0, none⟩) d ((nums (O.take (k + 1))).map (.int .i64)) ?_ ?_ ?_ ?_ ?_ 0 (k + 1) ?_ ?_ ?_ ?_ ?_; exact new_empty 3 wo.heap.size wo (Nat.le_refl _); simp; exact (Hsrc1.out.keep (keep_of_below ((Below.refl _ _).alloc (Nat.le_refl _) _))).cells; exact ints_oneCell .i64 _; decide; (rw [vals_len, List.length_take]; omega); decide; rfl; (rw [vals_len, List.length_take, HOl.out]; omega); rfl; rfl; rw [List.nil_append, Nat.zero_add]; intro A1 c1 w1 ho1 hb1 _ hz1; have hs1 : wo.heap.size ≤ w1.heap.size := Nat.le_trans (by simp) hz1; have hbw1 := ((Below.refl wo.heap.size wo).alloc (Nat.le_refl _) (.cells #[] 3)).trans hb1; have hl1 : (O.take (k + 1)).length = (k + 1) := (by rw [List.length_take, HOl.out]; omega); have Ho1 := Lib.hid ho1; have Hbw1 := Lib.hid hbw1; have Hl1 := Lib.hid hl1; clear ho1 hb1 hbw1 hl1) | (refine wpList_app1 rfl (.tmp 39) (.tmp 41) 33 rfl 3 (.int .i64 0) 8 Try.underlying33 info_int rfl wo.heap.size A1 c1 ((nums (O.take (k + 1))).map (.int .i64)) ?_ ?_ (.int .i64 (i : Int)) rfl ?_ ?_ (k + 1) ?_ ?_ ?_ ?_; exact Ho1.out; exact hs1; (rw [vals_len, Hl1.out]; omega); decide; (rw [vals_len, Hl1.out]); rfl; rfl; have hv2 : (nums (O.take (k + 1))).map (Value.int .i64) ++ [Value.int .i64 (i : Int)] = (nums (O.take (k + 1) ++ [i])).map (.int .i64) := (by rw [← nums_append, List.map_append]; rfl); rw [hv2]; clear hv2; intro A2 c2 w2 ho2 hb2 _ hz2; have hs2 : wo.heap.size ≤ w2.heap.size := Nat.le_trans hs1 hz2; have hbw2 := Hbw1.out.trans hb2; have hsr2 := Hsrc2.out.keep (keep_of_below hbw2); have Ho2 := Lib.hid ho2; have Hbw2 := Lib.hid hbw2; have Hsr2 := Lib.hid hsr2; clear ho2 hb2 hbw2 hsr2) | (refine wpList_appN rfl (.tmp 43) (.tmp 46) 33 rfl 3 (.int .i64 0) 8 Try.underlying33 info_int rfl wo.heap.size A2 c2 ((nums (O.take (k + 1) ++ [i])).map (.int .i64)) ?_ ?_ B (d - (k + 1)) ((nums (O.drop (k + 1))).map (.int .i64)) ?_ ?_ ?_ ?_ ?_ ((k + 1) + 1) (i - (k + 1)) ?_ ?_ ?_ ?_ ?_; exact Ho2.out; exact hs2; exact Hsr2.out.cells; exact ints_oneCell .i64 _; (rw [vals_len, List.length_append, Hl1.out]; simp; omega); (rw [vals_len, List.length_drop, HOl.out]; omega); decide; (rw [vals_len, List.length_append, Hl1.out]; rfl); (rw [vals_len, List.length_drop, HOl.out]); rfl; rfl; have hv3 : (nums (O.take (k + 1) ++ [i])).map (Value.int .i64) ++ (nums (O.drop (k + 1))).map (Value.int .i64) = (nums (insAll (byKey (keyOf l)) (i + 1))).map (.int .i64) := (by rw [Hnext.out, ← List.map_append, nums_append, List.append_assoc]; rfl); have hln : (k + 1) + 1 + (i - (k + 1)) = i + 1 := (by omega); rw [hv3, hln]; clear hv3 hln; intro A3 c3 w3 ho3 hb3 _ hz3; have Ho3 := Lib.hid ho3; have Hb3 := Lib.hid hb3; clear ho3 hb3))
            obtain ⟨g3, hA3, _, _, _, _⟩ := Ho3.out.at_ (k := 0) (u := (((nums (insAll (byKey (keyOf l)) (i + 1))).map (Value.int .i64))[0]'(by rw [vals_len, insAll_len]; omega))) (List.getElem?_eq_getElem _)
            subst hA3
            have hb4 := Hb.out.trans ((Hbw2.out.trans Hb3.out).mono Hb.out.size)
            have ho4 := Ho3.out.wide (lo' := w.heap.size) Hb.out.size (Nat.le_refl _)
            have Ho4 := Lib.hid ho4
            have Hb4 := Lib.hid hb4
            clear ho4 hb4
            go_roundw
            case rel => exact ⟨i + 1, g3, c3, by omega, by go_num, rfl, Ho4.out, Hb4.out⟩
            case measure => simp [intOf]; omega
    · obtain rfl : i = n := by omega
      have hRO : insAll (byKey (keyOf l)) i = R := by rw [← HR.out, orderF, Hn.out]
      rw [hRO] at ho
      have hRl : (nums R).length = i := by rw [nums, List.length_map, ← hRO, insAll_len]
      have Ho := Lib.hid ho
      have Hb := Lib.hid hb
      have HRO := Lib.hid hRO
      have HRl := Lib.hid hRl
      clear ho hb hRO hRl
      go_wp2
      go_ret
      exact ⟨_, d, by rw [HRl.out]; rfl, Ho.out, Hb.out⟩
end Go.Proofs.Ytehlijpjcjegcaa

