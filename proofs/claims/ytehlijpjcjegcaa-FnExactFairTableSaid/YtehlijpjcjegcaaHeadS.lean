/- Contract: the table of a set's clubs (HeadTable, reference). -/
import Derived.Test.YtehlijpjcjegcaaHeadT
namespace Go.Proofs.Ytehlijpjcjegcaa
set_option linter.unusedSimpArgs false
set_option linter.unusedVariables false
open Go.RowKit

set_option maxRecDepth 100000 in
set_option maxHeartbeats 4000000 in
theorem sHeadTable_c (n : Int) (A : Option Addr) (c : Nat) (rs : List Res) (s : Int) (w : World) (ha : Games w A rs) (hm : rs.length ≤ 1048576) :
    Calls Try.prog 28 #[lgv n A rs.length c, .int .i64 s] w (GivesI 3 w (nums (headF n rs s))) := by
  obtain ⟨R, hR⟩ : ∃ R, headF n rs s = R := ⟨_, rfl⟩
  rw [hR]
  have hac := fun W (h : Games W A rs) => sAmongClubs_c n A c rs s W h hm
  have hbw : Below w.heap.size w (w.alloc (.cells #[.int .i64 n, .slice A rs.length c] 29)) := (Below.refl _ _).alloc (Nat.le_refl _) _
  have hg0 := ha.keep (keep_of_below hbw)
  unfold lgv at hac ⊢
  have Hg0 := Lib.hid hg0
  have Hbw := Lib.hid hbw
  clear hg0 hbw
  have Ha := Lib.hid ha
  have Hac := Lib.hid hac
  have HR := Lib.hid hR
  clear ha hac hR
  go_enter Try.func28, Try.ntmps28
  go_wp2_with fail
  refine (Hac.out _ Hg0.out).mono ?_
  rintro e w2 ⟨hb2, hcase⟩
  have Hb2 := Lib.hid (Hbw.out.trans (hb2.mono Hbw.out.size))
  rcases hcase with ⟨hno, rfl⟩ | ⟨hyes, A1, c1, rfl, hg2⟩
  · have hR2 : R = [] := by rw [← HR.out, headF, if_neg (fun e => by rw [hno] at e; exact absurd e.1 (by decide))]
    subst hR2
    unfold lgv
    have Hno := Lib.hid hno
    clear hno
    clear hb2
    go_wp2
    go_ret
    exact ⟨none, 0, rfl, Own.nil .., Hb2.out.alloc Hb2.out.size _⟩
  · unfold lgv
    by_cases hs0 : s = 0
    · have e0 : (s == 0) = true := by simp [hs0]
      have hR2 : R = [] := by rw [← HR.out, headF, if_neg (fun e => e.2 hs0)]
      subst hR2
      have Hyes := Lib.hid hyes
      have Hg2 := Lib.hid hg2
      have Hs0 := Lib.hid hs0
      clear hyes hg2 hs0
      clear hb2
      go_wp2
      go_ret
      exact ⟨none, 0, rfl, Own.nil .., Hb2.out.alloc Hb2.out.size _⟩
    · have e0 : (s == 0) = false := by simpa using hs0
      have hyes2 := hyes
      rw [amongOk, Bool.and_eq_true] at hyes2
      have hL := league_of hyes2.1
      have hn8 := hL.eight
      obtain ⟨hs1, hs2⟩ := inR_true hyes2.2
      obtain ⟨S, rfl⟩ := Int.eq_ofNat_of_zero_le hs1
      have hN : 2 ^ n.toNat ≤ 256 := (Nat.pow_le_pow_right (by decide) (by omega) : 2 ^ n.toNat ≤ 2 ^ 8)
      have hS : S < 256 := by omega
      have hR2 : R = (tabF n (amongF S rs)).filter (fun k : Nat => inSet S (k : Int)) := by rw [← HR.out, headF, if_pos ⟨hyes, hs0⟩, Int.toNat_natCast]
      rw [Int.toNat_natCast] at hg2 ⊢
      have hfew : (amongF S rs).length ≤ 1048576 := Nat.le_trans (List.length_filter_le _ _) hm
      have htl : (tabF n (amongF S rs)).length ≤ 8 := by
        rw [tabF]; split
        · rw [tableF, insAll_len]; omega
        · simp
      obtain ⟨T, hT⟩ : ∃ T, tabF n (amongF S rs) = T := ⟨_, rfl⟩
      have hlt8 : ∀ k ∈ T, k < 8 := fun k hk => by rw [← hT] at hk; have := tabF_lt hk; omega
      have htc := fun W (h : Games W A1 (amongF S rs)) => sTableOf_c n A1 c1 (amongF S rs) W h hfew
      unfold lgv at htc
      rw [hT] at hR2 htl
      simp only [hT] at htc
      obtain ⟨L, hL2⟩ : ∃ L, (amongF S rs).length = L := ⟨_, rfl⟩
      rw [hL2] at htc ⊢
      obtain ⟨N, hN2⟩ : ∃ N, T.length = N := ⟨_, rfl⟩
      have hnl : (nums T).length = N := by rw [nums, List.length_map, hN2]
      rw [hN2] at htl
      have hb3 : Below w2.heap.size w2 (w2.alloc (.cells #[.int .i64 n, .slice A1 L c1] 29)) := (Below.refl _ _).alloc (Nat.le_refl _) _
      have hg3 := hg2.keep (keep_of_below hb3)
      obtain ⟨w3, hw3⟩ : ∃ w3, w2.alloc (.cells #[.int .i64 n, .slice A1 L c1] 29) = w3 := ⟨_, rfl⟩
      have l0 : w3.cell? ⟨w2.heap.size, 0, none⟩ = some (.int .i64 n) := by rw [← hw3]; simp
      have l1 : w3.cell? ⟨w2.heap.size, 1, none⟩ = some (.slice A1 L c1) := by rw [← hw3]; simp
      have hz3 : w3.heap.size = w2.heap.size + 1 := by rw [← hw3]; simp
      rw [hw3] at hb3 hg3
      have ha3 : Below w3.heap.size w3 (w3.alloc (.cells #[] 3)) := (Below.refl _ _).alloc (Nat.le_refl _) _
      have hk0 := new_empty 3 w3.heap.size w3 (Nat.le_refl _)
      have hg4 := hg3.keep (keep_of_below ha3)
      have Hw3 := Lib.hid hw3
      have Hb3 := Lib.hid (Hb2.out.trans (hb3.mono Hb2.out.size))
      clear hw3
      have Hyes := Lib.hid hyes
      have Hyes2 := Lib.hid hyes2
      have Hg2 := Lib.hid hg2
      have Hs0 := Lib.hid hs0
      have HT := Lib.hid hT
      have Hlt8 := Lib.hid hlt8
      have Htc := Lib.hid htc
      have HR2 := Lib.hid hR2
      have HL2 := Lib.hid hL2
      have HL := Lib.hid hL
      have Hnl := Lib.hid hnl
      have HN2 := Lib.hid hN2
      have Hg3 := Lib.hid hg3
      have Ha3 := Lib.hid ha3
      have Hk0 := Lib.hid hk0
      have Hg4 := Lib.hid hg4
      clear hyes hyes2 hg2 hs0 hT hlt8 htc hR2 hL2 hL hnl hN2 hg3 ha3 hk0 hg4
      clear hN hs2 hb2 hb3
      go_wp2_with fail
      rw [Hw3.out]
      obtain ⟨K0, hK0⟩ : ∃ K0, w2.heap.size + 1 = K0 := ⟨_, rfl⟩
      have hK3 : w3.heap.size = K0 := by omega
      have hwk : (w3.alloc (.cells #[] 3)).heap.size = K0 + 1 := by rw [← hK3]; simp
      simp only [hK0]
      refine (Htc.out _ Hg4.out).mono ?_
      rintro e w4 ⟨B, d, rfl, ho4, hb4⟩
      rw [Hnl.out]
      rw [hwk] at ho4 hb4
      have hk2 : Own 3 K0 w4.heap.size w4 (some ⟨K0, 0, none⟩) 0 [] := by
        have h := Hk0.out.below (w' := w4) (by rw [hwk]; exact hb4)
        rw [hK3, hwk] at h
        exact h.wide (Nat.le_refl _) (by have := hb4.size; rw [hwk] at this; exact this)
      have hz4 : K0 + 1 ≤ w4.heap.size := by have := hb4.size; rw [hwk] at this; exact this
      have hbw4 : Below w.heap.size w w4 := Hb3.out.trans ((Ha3.out.mono Hb3.out.size).trans (hb4.mono (by have := Hb3.out.size; omega)))
      have hwK : w.heap.size ≤ K0 := by have := Hb3.out.size; omega
      obtain ⟨Z, hZ⟩ : ∃ Z, w4.heap.size = Z := ⟨_, rfl⟩
      have Ho4 := Lib.hid ho4
      have Hk2 := Lib.hid hk2
      have Hbw4 := Lib.hid hbw4
      have HZ := Lib.hid hZ
      clear ho4 hk2 hbw4 hZ
      clear hb4 hwk hK0 hK3 l0 l1 hz3
      go_wp2
      go_loopw [7, 26] (fun v i wr => ∃ (k G q : Nat), k ≤ N ∧ i = .int .i64 k ∧ v = .slice (some ⟨G, 0, none⟩) ((T.take k).filter (fun k : Nat => inSet S (k : Int))).length q ∧ Own 3 K0 wr.heap.size wr (some ⟨G, 0, none⟩) q ((nums ((T.take k).filter (fun k : Nat => inSet S (k : Int)))).map (.int .i64)) ∧ (G = K0 ∨ Z ≤ G) ∧ Only K0 (K0 + 1) w4 wr) (fun _ i _ => N - (intOf i).toNat)
      case atStart => exact ⟨0, K0, 0, Nat.zero_le _, rfl, rfl, Hk2.out, .inl rfl, Only.refl _ _ _⟩
      case round =>
        obtain ⟨k, G, q, hk, rfl, rfl, ho, hG, hon⟩ := hrel
        by_cases hlt : k < N
        · have hki : (k : Int) < (N : Int) := by omega
          obtain ⟨x, hx⟩ := some_of (l := T) (k := k) (by rw [HN2.out]; exact hlt)
          have hx8 := Hlt8.out x (List.mem_of_getElem? hx)
          obtain ⟨bd, rfl, hcx⟩ := (Ho4.out.only hon (Nat.le_refl _) (.inr (Nat.le_refl _))).ints k (x : Int) (nums_at hx)
          obtain ⟨Q, hQ⟩ : ∃ Q, (T.take k).filter (fun k : Nat => inSet S (k : Int)) = Q := ⟨_, rfl⟩
          rw [hQ] at ho ⊢
          have hQl : Q.length ≤ 8 := by rw [← hQ]; exact Nat.le_trans (List.length_filter_le _ _) (by rw [List.length_take]; omega)
          have hstep : (T.take (k + 1)).filter (fun k : Nat => inSet S (k : Int)) = Q ++ (if inSet S (x : Int) = true then [x] else []) := by rw [take_of hx, List.filter_append, hQ]; congr 1; simp only [List.filter_cons, List.filter_nil]
          obtain ⟨u, hu⟩ : ∃ u, S / 2 ^ x = u := ⟨_, rfl⟩
          have hu256 : u < 256 := by rw [← hu]; exact Nat.lt_of_le_of_lt (Nat.div_le_self _ _) hS
          have f1 : (S : Int) / 2 ^ x = (u : Int) := by rw [← hu]; exact shr_nat S x
          have f2 : bits .and .i64 (u : Int) 1 = ((u % 2 : Nat) : Int) := and_one u (by omega)
          have hsu : inSet S (x : Int) = decide (u % 2 = 1) := by rw [inSet, Int.toNat_natCast, hu]
          rw [hsu] at hstep
          have hql : ((nums Q).map (Value.int .i64)).length = Q.length := vals_len Q
          obtain ⟨M, hM⟩ : ∃ M, Q.length = M := ⟨_, rfl⟩
          rw [hM] at hQl hql ⊢
          have hzr := hon.size
          by_cases hu1 : u % 2 = 1
          · have f3 : ((u : Int) % 2 == 1) = true := by simp; omega
            rw [decide_eq_true hu1, if_pos rfl] at hstep
            have hvs : (nums Q).map (Value.int .i64) ++ [Value.int .i64 (x : Int)] = (nums ((T.take (k + 1)).filter (fun k : Nat => inSet S (k : Int)))).map (.int .i64) := by rw [hstep, ← nums_append, List.map_append]; rfl
            have hlen : ((T.take (k + 1)).filter (fun k : Nat => inSet S (k : Int))).length = M + 1 := by rw [hstep, List.length_append, hM]; rfl
            have Ho := Lib.hid ho
            have HG := Lib.hid hG
            have Hon := Lib.hid hon
            have Hx := Lib.hid hx
            have HQ := Lib.hid hQ
            have Hstep := Lib.hid hstep
            have Hu := Lib.hid hu
            have Hsu := Lib.hid hsu
            have Hql := Lib.hid hql
            have HM := Lib.hid hM
            have Hvs := Lib.hid hvs
            have Hlen := Lib.hid hlen
            have Hu1 := Lib.hid hu1
            clear ho hG hon hx hQ hstep hu hsu hql hM hvs hlen hu1
            go_wp2_with (at_builtin; refine wpList_app1l rfl (.tmp 35) (.tmp 37) 33 rfl 3 (.int .i64 0) 8 Try.underlying33 info_int rfl wr K0 (some ⟨G, 0, none⟩) q ((nums Q).map (.int .i64)) Ho.out ?_ (.int .i64 (x : Int)) rfl ?_ (by decide) M ?_ rfl rfl ?_; omega; (rw [Hql.out]; omega); exact Hql.out.symm; rw [Hvs.out]; intro g3 c3 w6 ho6 hg6 hg6' hl6; have Ho6 := Lib.hid ho6; have Hg6 := Lib.hid hg6; have Hl6 := Lib.hid hl6; clear ho6 hg6 hg6' hl6)
            have hon6 : Only K0 (K0 + 1) w4 w6 := only_step HZ.out Hon.out HG.out Hg6.out
            have hG6 : g3 = K0 ∨ Z ≤ g3 := by
              rcases Hl6.out with h | h
              · injection h with h
                rw [← h]; exact HG.out
              · have := HZ.out; right; omega
            have Hon6 := Lib.hid hon6
            have HG6 := Lib.hid hG6
            clear hon6 hG6
            clear hcx
            go_roundw
            case rel => exact ⟨k + 1, g3, c3, by omega, by go_num, by rw [Hlen.out], Ho6.out, HG6.out, Hon6.out⟩
            case measure => simp [intOf]; omega
          · have f3 : ((u : Int) % 2 == 1) = false := by simp; omega
            rw [decide_eq_false hu1, if_neg (by decide), List.append_nil] at hstep
            have Ho := Lib.hid ho
            have HG := Lib.hid hG
            have Hon := Lib.hid hon
            have Hx := Lib.hid hx
            have HQ := Lib.hid hQ
            have Hstep := Lib.hid hstep
            have Hu := Lib.hid hu
            have Hsu := Lib.hid hsu
            have Hql := Lib.hid hql
            have HM := Lib.hid hM
            have Hu1 := Lib.hid hu1
            clear ho hG hon hx hQ hstep hu hsu hql hM hu1
            go_wp2
            go_roundw
            case rel => exact ⟨k + 1, G, q, by omega, by go_num, by rw [Hstep.out, HM.out], by rw [Hstep.out]; exact Ho.out, HG.out, Hon.out⟩
            case measure => simp [intOf]; omega
        · obtain rfl : k = N := by omega
          have hall : (T.take k).filter (fun k : Nat => inSet S (k : Int)) = R := by rw [List.take_of_length_le (by rw [HN2.out]; exact Nat.le_refl _), HR2.out]
          rw [hall] at ho ⊢
          have hbr : Below w.heap.size w wr := Hbw4.out.trans (below_of_only hon hwK Hbw4.out.size)
          have ho7 := ho.wide hwK (Nat.le_refl _)
          have hRl : (nums R).length = R.length := by rw [nums, List.length_map]
          have Ho := Lib.hid ho
          have Ho7 := Lib.hid ho7
          have Hbr := Lib.hid hbr
          have Hon := Lib.hid hon
          have Hall := Lib.hid hall
          have HRl := Lib.hid hRl
          clear ho ho7 hbr hon hall hRl
          go_wp2
          go_ret
          exact ⟨_, q, by rw [HRl.out]; rfl, Ho7.out, Hbr.out⟩
end Go.Proofs.Ytehlijpjcjegcaa
