/- Contracts: the table of a league (reference), and the parts of the program's. -/
import Derived.Test.YtehlijpjcjegcaaTabP
import Derived.Test.YtehlijpjcjegcaaGrow
namespace Go.Proofs.Ytehlijpjcjegcaa
set_option linter.unusedSimpArgs false
set_option linter.unusedVariables false
open Go.RowKit

theorem only_step {K0 Z G : Nat} {w2 wr w' : World} (hz : w2.heap.size = Z) (h : Only K0 (K0 + 1) w2 wr) (hG : G = K0 ∨ Z ≤ G) (hgr : wr.grownBy w' (some G)) : Only K0 (K0 + 1) w2 w' :=
  ⟨hgr.os.trans h.os, hgr.tape.trans h.tape, hgr.output.trans h.output, Nat.le_trans h.size hgr.size, fun k hk hd =>
    (hgr.block k (Nat.lt_of_lt_of_le hk h.size) (fun e => by injection e with e; omega)).trans (h.block k hk hd)⟩
theorem only_below {lo hi : Nat} {a b c : World} (h : Only lo hi a b) (k : Below b.heap.size b c) : Only lo hi a c := h.trans (only_of_below k (Nat.le_refl _))

set_option maxRecDepth 100000 in
set_option maxHeartbeats 8000000 in
theorem sTableOf_c (n : Int) (A : Option Addr) (c : Nat) (rs : List Res) (w : World) (ha : Games w A rs) (hm : rs.length ≤ 1048576) :
    Calls Try.prog 62 #[lgv n A rs.length c] w (GivesI 3 w (nums (tabF n rs))) := by
  obtain ⟨R, hR⟩ : ∃ R, tabF n rs = R := ⟨_, rfl⟩
  rw [hR]
  have hlc := fun W (h : Games W A rs) => sLeagueOk_c n A c rs W h hm
  obtain ⟨b0, b1⟩ := box2 w (.int .i64 n) (.slice A rs.length c) 29
  have hbw : Below w.heap.size w (w.alloc (.cells #[.int .i64 n, .slice A rs.length c] 29)) := (Below.refl _ _).alloc (Nat.le_refl _) _
  have hg0 := ha.keep (keep_of_below hbw)
  unfold lgv at hlc ⊢
  cases h1 : leagueOk n rs
  · have hR2 : R = [] := by rw [← hR, tabF, if_neg (by rw [h1]; decide)]
    subst hR2
    simp only [h1] at hlc
    have Ha := Lib.hid ha
    have Hlc := Lib.hid hlc
    have Hbw := Lib.hid hbw
    have Hg0 := Lib.hid hg0
    have H1 := Lib.hid h1
    have HR := Lib.hid hR
    clear ha hlc hbw hg0 h1 hR
    go_enter Try.func62, Try.ntmps62
    go_wp2_with fail
    refine (Hlc.out _ Hg0.out).mono ?_
    rintro e w1 ⟨rfl, hb⟩
    go_wp2
    go_ret
    exact ⟨none, 0, rfl, Own.nil .., Hbw.out.trans (hb.mono Hbw.out.size)⟩
  · have hL := league_of h1
    obtain ⟨n, rfl⟩ := Int.eq_ofNat_of_zero_le (show 0 ≤ n by have := hL.two; omega)
    have hn8 : n ≤ 8 := by have := hL.eight; omega
    have hR2 : R = tableF n rs := by rw [← hR, tabF, if_pos h1, Int.toNat_natCast]
    have hR3 : orderF (keysL n rs) = R := by rw [hR2, order_keys]
    have hpc := fun W (h : Games W A rs) => l12All_c n A c rs W h h1
    have hgc := fun (k : Int) W (h : Games W A rs) => l12Goals_c n A c rs k W h h1
    have hpl := pointsF_len hL
    simp only [h1] at hlc
    unfold lgv at hpc hgc
    obtain ⟨m, hmm⟩ : ∃ m, rs.length = m := ⟨_, rfl⟩
    rw [hmm] at hlc hpc hgc hbw hg0 b0 b1 ⊢
    have Hpl := Lib.hid hpl
    have HL := Lib.hid hL
    clear hpl hL
    have Ha := Lib.hid ha
    have Hlc := Lib.hid hlc
    have Hbw := Lib.hid hbw
    have Hg0 := Lib.hid hg0
    have H1 := Lib.hid h1
    have HR := Lib.hid hR
    have HR3 := Lib.hid hR3
    have Hpc := Lib.hid hpc
    have Hgc := Lib.hid hgc
    have Hmm := Lib.hid hmm
    clear ha hlc hbw hg0 h1 hR hR3 hpc hgc hmm
    clear hR2
    go_enter Try.func62, Try.ntmps62
    go_wp2_with fail
    refine (Hlc.out _ Hg0.out).mono ?_
    rintro e w1 ⟨rfl, hb⟩
    have c0 := keep_of_below hb _ _ b0
    have c1 := keep_of_below hb _ _ b1
    have Hb := Lib.hid (Hbw.out.trans (hb.mono Hbw.out.size))
    have hbx : w.heap.size < w1.heap.size := by have := hb.size; simp at this; omega
    clear hb b0 b1
    have ha1 : Below w1.heap.size w1 (w1.alloc (.cells #[] 3)) := (Below.refl _ _).alloc (Nat.le_refl _) _
    have hk0 := new_empty 3 w1.heap.size w1 (Nat.le_refl _)
    have Ha1 := Lib.hid ha1
    have Hk0 := Lib.hid hk0
    clear ha1 hk0
    go_wp2_with fail
    refine (Hpc.out _ (Ha.out.keep (keep_of_below (Hb.out.trans (Ha1.out.mono Hb.out.size))))).mono ?_
    rintro e w2 ⟨PA, pc, rfl, hpo, hb2⟩
    obtain ⟨K0, hK0⟩ : ∃ K0, w1.heap.size = K0 := ⟨_, rfl⟩
    have hwk : (w1.alloc (.cells #[] 3)).heap.size = K0 + 1 := by rw [← hK0]; simp
    rw [hwk] at hpo hb2
    have hk2 : Own 3 K0 w2.heap.size w2 (some ⟨K0, 0, none⟩) 0 [] := by
      have h := Hk0.out.below (w' := w2) (by rw [hwk]; exact hb2)
      rw [hK0, hwk] at h
      exact h.wide (Nat.le_refl _) (by have := hb2.size; rw [hwk] at this; exact this)
    have hz2 : K0 + 1 ≤ w2.heap.size := by have := hb2.size; rw [hwk] at this; exact this
    have d0 := (hb2.cell (p := ⟨w.heap.size, 0, none⟩) (by show w.heap.size < K0 + 1; omega)).trans (keep_of_below Ha1.out _ _ c0)
    have d1 := (hb2.cell (p := ⟨w.heap.size, 1, none⟩) (by show w.heap.size < K0 + 1; omega)).trans (keep_of_below Ha1.out _ _ c1)
    have hbw2 := Hb.out.trans ((Ha1.out.mono Hb.out.size).trans (hb2.mono (by omega)))
    have hbx2 : w.heap.size < K0 := by omega
    rw [hK0]
    have hpl2 : (pointsF n rs).length = n := Hpl.out
    rw [hpl2]
    obtain ⟨Z, hZ⟩ : ∃ Z, w2.heap.size = Z := ⟨_, rfl⟩
    obtain ⟨P, hP⟩ : ∃ P, pointsF n rs = P := ⟨_, rfl⟩
    rw [hP] at hpo
    have Hpo := Lib.hid hpo
    have Hk2 := Lib.hid hk2
    have Hbw2 := Lib.hid hbw2
    have HP := Lib.hid hP
    have HZ := Lib.hid hZ
    have Hpl2 := Lib.hid hpl2
    clear hpo hk2 hbw2 hP hZ hpl2
    clear hb2 hwk Ha1 Hk0 c0 c1 hK0 Hlc
    go_wp2
    go_loopw [3, 15] (fun v i wr => ∃ (k G q : Nat), k ≤ n ∧ i = .int .i64 k ∧ v = .slice (some ⟨G, 0, none⟩) k q ∧ Own 3 K0 wr.heap.size wr (some ⟨G, 0, none⟩) q (((keysL n rs).take k).map (.int .i64)) ∧ (G = K0 ∨ Z ≤ G) ∧ Only K0 (K0 + 1) w2 wr) (fun _ i _ => n - (intOf i).toNat)
    case atStart => exact ⟨0, K0, 0, Nat.zero_le _, rfl, rfl, Hk2.out, .inl rfl, Only.refl _ _ _⟩
    case round =>
      obtain ⟨k, G, q, hk, rfl, rfl, ho, hG, hon⟩ := hrel
      by_cases hlt : k < n
      · have hki : (k : Int) < (n : Int) := by omega
        obtain ⟨p, hp⟩ := some_of (l := P) (k := k) (by rw [← HP.out, Hpl2.out]; exact hlt)
        have hpg : (pointsF n rs).getD k 0 = p := by rw [HP.out, List.getD_eq_getElem?_getD, hp]; rfl
        have hpi := (Hpo.out.only hon (Nat.le_refl _) (.inr (Nat.le_refl _))).ints
        obtain ⟨pa, rfl, hcp⟩ := hpi k p hp
        have hbr : Below w.heap.size w wr := Hbw2.out.trans (below_of_only hon (by omega) Hbw2.out.size)
        have e0 := cell_only hon d0 (.inl (by show w.heap.size < K0; exact hbx2))
        have e1 := cell_only hon d1 (.inl (by show w.heap.size < K0; exact hbx2))
        obtain ⟨p0, p1⟩ := points_bd HL.out k
        rw [hpg] at p0 p1
        obtain ⟨m0, m1, a0, a1⟩ := goals_bd HL.out (k : Int)
        have hkey : keyT n rs k = (p * 20000 + madeF rs (k : Int) - agstF rs (k : Int) + 10000) * 10000 + madeF rs (k : Int) := by rw [keyT, hpg]
        have hgk := fun W h => Hgc.out (k : Int) W h
        obtain ⟨mk, hmk⟩ : ∃ x, madeF rs (k : Int) = x := ⟨_, rfl⟩
        obtain ⟨ak, hak⟩ : ∃ x, agstF rs (k : Int) = x := ⟨_, rfl⟩
        rw [hmk] at m0 m1
        rw [hak] at a0 a1
        rw [hmk, hak] at hkey
        simp only [hmk, hak] at hgk
        have hstep : ((keysL n rs).take k).map (Value.int .i64) ++ [Value.int .i64 ((p * 20000 + mk - ak + 10000) * 10000 + mk)] = ((keysL n rs).take (k + 1)).map (.int .i64) := by rw [take_of (keysL_at hlt), List.map_append, hkey]; rfl
        have hkl : (((keysL n rs).take k).map (Value.int .i64)).length = k := by rw [List.length_map, List.length_take, keysL_len]; omega
        have q1 : IntKind.i64.wrap (p * 20000) = p * 20000 := IntWalk.i64_in _ (by omega)
        have q2 : IntKind.i64.wrap (p * 20000 + mk) = p * 20000 + mk := IntWalk.i64_in _ (by omega)
        have q3 : IntKind.i64.wrap (p * 20000 + mk - ak) = p * 20000 + mk - ak := IntWalk.i64_in _ (by omega)
        have q4 : IntKind.i64.wrap (p * 20000 + mk - ak + 10000) = p * 20000 + mk - ak + 10000 := IntWalk.i64_in _ (by omega)
        have q5 : IntKind.i64.wrap ((p * 20000 + mk - ak + 10000) * 10000) = (p * 20000 + mk - ak + 10000) * 10000 := IntWalk.i64_in _ (by omega)
        have q6 : IntKind.i64.wrap ((p * 20000 + mk - ak + 10000) * 10000 + mk) = (p * 20000 + mk - ak + 10000) * 10000 + mk := IntWalk.i64_in _ (by omega)
        have hgw := Ha.out.keep (keep_of_below hbr)
        have Ho := Lib.hid ho
        have HG := Lib.hid hG
        have Hon := Lib.hid hon
        have Hp := Lib.hid hp
        have Hpg := Lib.hid hpg
        have Hkey := Lib.hid hkey
        have Hgk := Lib.hid hgk
        have Hmk := Lib.hid hmk
        have Hak := Lib.hid hak
        have Hstep := Lib.hid hstep
        have Hkl := Lib.hid hkl
        have Hbr := Lib.hid hbr
        have Hgw := Lib.hid hgw
        clear ho hG hon hp hpg hkey hgk hmk hak hstep hkl hbr hgw
        clear hpi
        go_wp2_with fail
        refine (Hgk.out _ Hgw.out).mono ?_
        rintro e w5 ⟨rfl, hb5⟩
        have ho5 := Ho.out.below hb5
        have hz5 := hb5.size
        have hon5 := only_below Hon.out hb5
        have hK5 : K0 ≤ w5.heap.size := by have := hon5.size; omega
        have ho5w := ho5.wide (Nat.le_refl K0) hz5
        have Ho5w := Lib.hid ho5w
        have Hon5 := Lib.hid hon5
        clear ho5w hon5
        clear ho5 hb5 e0 e1 hcp
        go_wp2_with (at_builtin; refine wpList_app1l rfl (.tmp 26) (.tmp 37) 33 rfl 3 (.int .i64 0) 8 Try.underlying33 info_int rfl w5 K0 (some ⟨G, 0, none⟩) q (((keysL n rs).take k).map (.int .i64)) Ho5w.out hK5 (.int .i64 ((p * 20000 + mk - ak + 10000) * 10000 + mk)) rfl ?_ (by decide) k ?_ rfl rfl ?_; (rw [Hkl.out]; omega); exact Hkl.out.symm; rw [Hstep.out]; intro g3 c3 w6 ho6 hg6 hg6' hl6; have Ho6 := Lib.hid ho6; have Hg6 := Lib.hid hg6; have Hl6 := Lib.hid hl6; clear ho6 hg6 hg6' hl6)
        have hon6 : Only K0 (K0 + 1) w2 w6 := only_step HZ.out Hon5.out HG.out Hg6.out
        have hG6 : g3 = K0 ∨ Z ≤ g3 := by
          rcases Hl6.out with h | h
          · injection h with h
            rw [← h]; exact HG.out
          · have := Hon5.out.size; have := HZ.out; right; omega
        have Hon6 := Lib.hid hon6
        have HG6 := Lib.hid hG6
        clear hon6 hG6
        go_roundw
        case rel => exact ⟨k + 1, g3, c3, by omega, by go_num, rfl, Ho6.out, HG6.out, Hon6.out⟩
        case measure => simp [intOf]; omega
      · obtain rfl : k = n := by omega
        rw [List.take_of_length_le (by rw [keysL_len]; exact Nat.le_refl _)] at ho
        have hlo := l09Order_c (some ⟨G, 0, none⟩) q (keysL k rs) wr ho.ints (by rw [keysL_len]; omega)
        rw [keysL_len, HR3.out] at hlo
        have hbr : Below w.heap.size w wr := Hbw2.out.trans (below_of_only hon (by omega) Hbw2.out.size)
        have hzr := hbr.size
        have Hlo := Lib.hid hlo
        have Ho := Lib.hid ho
        have HG := Lib.hid hG
        have Hon := Lib.hid hon
        have Hbr := Lib.hid hbr
        clear hlo ho hG hon hbr
        go_wp2_with fail
        refine Hlo.out.mono ?_
        rintro e w7 ⟨A7, c7, rfl, ho7, hb7⟩
        have hb8 := Hbr.out.trans (hb7.mono hzr)
        have ho8 := ho7.wide hzr (Nat.le_refl _)
        have Ho8 := Lib.hid ho8
        have Hb8 := Lib.hid hb8
        clear ho8 hb8
        clear ho7 hb7
        go_wp2
        go_ret
        exact ⟨A7, c7, rfl, Ho8.out, Hb8.out⟩
end Go.Proofs.Ytehlijpjcjegcaa
