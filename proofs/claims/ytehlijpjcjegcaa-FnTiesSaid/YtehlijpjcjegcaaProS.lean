/- Contracts: ProgressOf (reference), and what it is in plain Lean. -/
import Derived.Test.YtehlijpjcjegcaaSumI
namespace Go.Proofs.Ytehlijpjcjegcaa
set_option linter.unusedSimpArgs false
set_option linter.unusedVariables false
open Go.RowKit

def proFold : List Int → List Int → List Res → List Int
  | _, ol, [] => ol
  | pl, ol, r :: t =>
    proFold (bump1 (bump1 pl r.h.toNat (ptsH r)) r.a.toNat (ptsA r))
      (bump1 (bump1 ol r.h.toNat ((bump1 (bump1 pl r.h.toNat (ptsH r)) r.a.toNat (ptsA r)).getD r.h.toNat 0)) r.a.toNat ((bump1 (bump1 pl r.h.toNat (ptsH r)) r.a.toNat (ptsA r)).getD r.a.toNat 0)) t
def progF (n : Int) (rs : List Res) : List Int := if leagueOk n rs = true then proFold (List.replicate n.toNat 0) (List.replicate n.toNat 0) rs else []
/-- The sum of the sums of a list's beginnings. -/
def progL (xs : List Int) : Int := (List.range xs.length).foldl (fun s i => s + (xs.take (i + 1)).sum) 0
theorem progL_snoc (xs : List Int) (u : Int) : progL (xs ++ [u]) = progL xs + (xs ++ [u]).sum := by
  unfold progL
  rw [List.length_append, List.length_singleton, List.range_succ, List.foldl_append, List.foldl_cons, List.foldl_nil]
  have e : (xs ++ [u]).take (xs.length + 1) = xs ++ [u] := List.take_of_length_le (by simp)
  rw [e]
  congr 1
  have : ∀ (m : Nat) (s : Int), m ≤ xs.length → (List.range m).foldl (fun s i => s + ((xs ++ [u]).take (i + 1)).sum) s = (List.range m).foldl (fun s i => s + (xs.take (i + 1)).sum) s := by
    intro m
    induction m with
    | zero => intro s _; rfl
    | succ m ih =>
      intro s hm
      rw [List.range_succ, List.foldl_append, List.foldl_append, ih s (by omega)]
      simp only [List.foldl_cons, List.foldl_nil]
      rw [List.take_append_of_le_length (by omega)]
  exact this _ _ (Nat.le_refl _)
theorem bump1_get (l : List Int) (i j : Nat) (v : Int) (hi : i < l.length) : (bump1 l i v).getD j 0 = if i = j then l.getD j 0 + v else l.getD j 0 := by
  rw [bump1, List.getD_eq_getElem?_getD, List.getElem?_set]
  by_cases h : i = j
  · subst h
    rw [if_pos rfl, if_pos hi, if_pos rfl]; rfl
  · rw [if_neg h, if_neg h, List.getD_eq_getElem?_getD]
theorem put_prog (xss : List (List Int)) (k : Nat) (u : Int) (hk : k < xss.length) : (put1 xss k u).map progL = bump1 (xss.map progL) k ((xss.map List.sum).getD k 0 + u) := by
  obtain ⟨xs, hx⟩ := some_of hk
  rw [put1, map_set', bump1, progL_snoc, sum_snoc]
  rw [List.getD_eq_getElem?_getD, List.getD_eq_getElem?_getD, List.getD_eq_getElem?_getD, List.getElem?_map, List.getElem?_map, hx]
  rfl
theorem add_prog (P : List Int) (n : Nat) : ∀ (rs : List Res) (xss : List (List Int)), xss.length = n → (∀ r ∈ rs, resOk n r = true) → (addFold fPro P xss rs).map progL = proFold (xss.map List.sum) (xss.map progL) rs
  | [], _, _, _ => rfl
  | r :: t, xss, hl, hok => by
    have hr := resOk_of (hok r (by simp))
    have h0 := hr.h0; have hn := hr.hn; have a0 := hr.a0; have an := hr.an
    have hne := hr.ne
    have hu : fPro r r.h (P.getD r.a.toNat 0) = ptsH r := pts3_h r.h r.a r.g r.t
    have hv : fPro r r.a (P.getD r.h.toNat 0) = ptsA r := pts3_a r.h r.a r.g r.t hne
    have hsl : (xss.map List.sum).length = n := by rw [List.length_map]; exact hl
    have ih := add_prog P n t (addStep fPro P xss r) (by rw [addStep, put1_len, put1_len]; exact hl) (fun r' hr' => hok r' (by simp [hr']))
    rw [addFold, ih, proFold, addStep, hu, hv, put_sum _ _ _ (by rw [put1_len]; omega), put_sum _ _ _ (by omega), put_prog _ _ _ (by rw [put1_len]; omega), put_prog _ _ _ (by omega), put_sum _ _ _ (by omega)]
    have hl1 : r.h.toNat < (xss.map List.sum).length := by omega
    have hl2 : r.a.toNat < (bump1 (xss.map List.sum) r.h.toNat (ptsH r)).length := by rw [bump1_len]; omega
    have e1 : (bump1 (bump1 (xss.map List.sum) r.h.toNat (ptsH r)) r.a.toNat (ptsA r)).getD r.h.toNat 0 = (xss.map List.sum).getD r.h.toNat 0 + ptsH r := by
      rw [bump1_get _ _ _ _ hl2, if_neg (by omega), bump1_get _ _ _ _ hl1, if_pos rfl]
    have e2 : (bump1 (bump1 (xss.map List.sum) r.h.toNat (ptsH r)) r.a.toNat (ptsA r)).getD r.a.toNat 0 = (bump1 (xss.map List.sum) r.h.toNat (ptsH r)).getD r.a.toNat 0 + ptsA r := by
      rw [bump1_get _ _ _ _ hl2, if_pos rfl]
    rw [e1, e2]
theorem addends_prog {n : Nat} {rs : List Res} (hok : leagueOk n rs = true) : (addendsF fPro n rs).map progL = progF n rs := by
  rw [addendsF, add_prog _ n rs _ (by simp) (league_of hok).ok, progF, if_pos hok]
  simp [progL]


set_option maxRecDepth 100000 in
set_option maxHeartbeats 4000000 in
theorem sProgressOf_c (n : Int) (A : Option Addr) (c : Nat) (rs : List Res) (w : World) (ha : Games w A rs) (hm : rs.length ≤ 1048576) :
    Calls Try.prog 16 #[lgv n A rs.length c] w (GivesI 3 w (progF n rs)) := by
  have hlc := fun W (h : Games W A rs) => sLeagueOk_c n A c rs W h hm
  obtain ⟨b0, b1⟩ := box2 w (.int .i64 n) (.slice A rs.length c) 29
  have hb1 : Below w.heap.size w (w.alloc (.cells #[.int .i64 n, .slice A rs.length c] 29)) := (Below.refl _ _).alloc (Nat.le_refl _) _
  cases hok : leagueOk n rs
  · have hv : progF n rs = [] := by rw [progF, if_neg (by simp [hok])]
    rw [hv]
    rw [hok] at hlc
    unfold lgv at hlc ⊢
    have Ha := Lib.hid ha
    have Hlc := Lib.hid hlc
    have Hb1 := Lib.hid hb1
    have Hok := Lib.hid hok
    clear ha hlc hb1 hok
    clear hv
    go_enter Try.func16, Try.ntmps16
    go_wp2_with fail
    refine (Hlc.out _ (Ha.out.keep (keep_of_below Hb1.out))).mono ?_
    rintro e w1 ⟨rfl, hb⟩
    go_wp2
    go_ret
    exact ⟨none, 0, rfl, Own.nil .., Hb1.out.trans (hb.mono Hb1.out.size)⟩
  · generalize hR : progF n rs = R
    have HR := Lib.hid hR
    clear hR
    have hL := league_of hok
    obtain ⟨n, rfl⟩ := Int.eq_ofNat_of_zero_le (show 0 ≤ n by have := hL.two; omega)
    have hn8 : n ≤ 8 := by have := hL.eight; omega
    have hm60 := hL.few
    have hrs := hL.ok
    rw [hok] at hlc
    have HS : Hid (proFold (List.replicate n 0) (List.replicate n 0) rs = R) := Lib.hid (by rw [← HR.out, progF, if_pos hok]; rfl)
    unfold lgv at hlc ⊢
    clear hm
    obtain ⟨m, hm⟩ : ∃ m, rs.length = m := ⟨_, rfl⟩
    rw [hm] at hm60 hlc hb1 b0 b1 ⊢
    have Ha := Lib.hid ha
    have Hm := Lib.hid hm
    have Hrs := Lib.hid hrs
    have Hb1 := Lib.hid hb1
    have Hlc := Lib.hid hlc
    clear ha hm hrs hb1 hlc
    clear hL hok HR
    go_enter Try.func16, Try.ntmps16
    go_wp2_with fail
    refine (Hlc.out _ (Ha.out.keep (keep_of_below Hb1.out))).mono ?_
    rintro e w2 ⟨rfl, hb⟩
    have c0 := keep_of_below hb _ _ b0
    have c1 := keep_of_below hb _ _ b1
    have Hb3 := Lib.hid (Hb1.out.trans (hb.mono Hb1.out.size))
    clear hb b0 b1 Hb1
    go_wp2_with (first
      | (refine wpList_mk w2 rfl (.tmp 13) (.tmp 13) 33 rfl 3 (.int .i64 0) 8 Try.underlying33 info_int rfl n ?_ ?_ ?_ ?_ ?_; rfl; rfl; decide; omega; intro w3 homade hb3 hz3; (have d0 := keep_of_below hb3 _ _ c0); (have d1 := keep_of_below hb3 _ _ c1); have Ho1 := Lib.hid homade; have Hb4 := Lib.hid (Hb3.out.trans (hb3.mono Hb3.out.size)); clear homade hb3)
      | (refine wpList_mk w3 rfl (.tmp 16) (.tmp 16) 33 rfl 3 (.int .i64 0) 8 Try.underlying33 info_int rfl n ?_ ?_ ?_ ?_ ?_; rfl; rfl; decide; omega; intro w4 homade hb3 hz4; (have e0 := keep_of_below hb3 _ _ d0); (have e1 := keep_of_below hb3 _ _ d1); have Ho2 := Lib.hid homade; have Hb5 := Lib.hid (Hb4.out.trans (hb3.mono Hb4.out.size)); (have Ho3 := Lib.hid (Ho1.out.below hb3)); clear homade hb3))
    obtain ⟨GP, hGP⟩ : ∃ G, w2.heap.size = G := ⟨_, rfl⟩
    obtain ⟨GO, hGO⟩ : ∃ G, w3.heap.size = G := ⟨_, rfl⟩
    have hGw : w.heap.size ≤ GP := by rw [← hGP]; exact Hb3.out.size
    have HoP0 : Hid (Own 3 GP GO w4 (some ⟨GP, 0, none⟩) n ((List.replicate n (0 : Int)).map (.int .i64))) := Lib.hid (by rw [← hGP, ← hGO]; simpa using Ho3.out)
    obtain ⟨hM, hhM⟩ : ∃ h, w4.heap.size = h := ⟨_, rfl⟩
    have HoO0 : Hid (Own 3 GO hM w4 (some ⟨GO, 0, none⟩) n ((List.replicate n (0 : Int)).map (.int .i64))) := Lib.hid (by rw [← hGO, ← hhM]; simpa using Ho2.out)
    have hGPO : GP < GO := by omega
    have hGOM : GO < hM := by omega
    have hMw : hM ≤ w4.heap.size := by omega
    simp only [hGP, hGO]
    clear Ho1 Ho2 Ho3 Hb3 Hb4 c0 c1 d0 d1 e0 e1 hGP hGO hz3 hz4 hhM
    go_loopw [21] (fun i wr => ∃ (k : Nat) (pl ol : List Int), k ≤ m ∧ i = .int .i64 k ∧ Bnd n (6 * (k : Int)) pl ∧ Bnd n (720 * (k : Int)) ol ∧ proFold pl ol (rs.drop k) = R ∧ Own 3 GP GO wr (some ⟨GP, 0, none⟩) n (pl.map (.int .i64)) ∧ Own 3 GO hM wr (some ⟨GO, 0, none⟩) n (ol.map (.int .i64)) ∧ Below w.heap.size w wr ∧ hM ≤ wr.heap.size) (fun i _ => m - (intOf i).toNat)
    case atStart => exact ⟨0, _, _, Nat.zero_le _, rfl, bnd_zeros n _ (by omega), bnd_zeros n _ (by omega), HS.out, HoP0.out, HoO0.out, Hb5.out, hMw⟩
    case round =>
      clear HS HoP0 HoO0 Hb5 hMw
      obtain ⟨k, pl, ol, hk, rfl, hbn, hbo, hS, hop, hoo, hd, hz⟩ := hrel
      have Hd := Lib.hid hd
      have HS := Lib.hid hS
      have Hop := Lib.hid hop
      have Hoo := Lib.hid hoo
      have Hbn := Lib.hid hbn
      have Hbo := Lib.hid hbo
      clear hd hS hop hoo hbn hbo
      by_cases hlt : k < m
      · have hki : (k : Int) < (m : Int) := by omega
        obtain ⟨r, hr⟩ := some_of (l := rs) (k := k) (by rw [Hm.out]; exact hlt)
        have HS1 := Lib.hid HS.out
        have hS1 := HS.out
        rw [drop_of hr, proFold] at hS1
        have hro := resOk_of (Hrs.out r (List.mem_of_getElem? hr))
        obtain ⟨ad, rfl, a0, a1, a2, a3⟩ := (Ha.out.keep (keep_of_below Hd.out)) k _ hr
        have xH := ptsH_bd r
        have xA := ptsA_bd r
        obtain ⟨rh, ra, rg, rt⟩ := r
        obtain ⟨h, eh⟩ := Int.eq_ofNat_of_zero_le hro.h0
        obtain ⟨a, ea⟩ := Int.eq_ofNat_of_zero_le hro.a0
        simp only at eh ea a0 a1 a2 a3 hS1
        subst eh ea
        simp only [Int.toNat_natCast] at hS1
        have hhn : h < n := by have := hro.hn; simp only at this; omega
        have han : a < n := by have := hro.an; simp only at this; omega
        have hhi : (h : Int) < (n : Int) := by omega
        have hai : (a : Int) < (n : Int) := by omega
        have hcp := fun W => l12Points_c (h : Int) (a : Int) rg rt W
        obtain ⟨x, hx⟩ : ∃ x, ptsH ⟨h, a, rg, rt⟩ = x := ⟨_, rfl⟩
        obtain ⟨y, hy⟩ : ∃ y, ptsA ⟨h, a, rg, rt⟩ = y := ⟨_, rfl⟩
        simp only [hx, hy] at hcp xH xA hS1
        obtain ⟨x0, x3⟩ := xH
        obtain ⟨y0, y3⟩ := xA
        have hll : pl.length = n := Hbn.out.len
        have hlo : ol.length = n := Hbo.out.len
        obtain ⟨pu, hpu⟩ : ∃ u, pl.getD h 0 = u := ⟨_, rfl⟩
        obtain ⟨pv, hpv⟩ : ∃ v, (bump1 pl h x).getD a 0 = v := ⟨_, rfl⟩
        have pb0 := Hbn.out.get hhn
        have bn1 := Hbn.out.bump hhn x0 x3
        have pb1 := bn1.get han
        have bn2 := bn1.bump han y0 y3
        have hp1l : (bump1 pl h x).length = n := bn1.len
        have hp2l : (bump1 (bump1 pl h x) a y).length = n := bn2.len
        obtain ⟨u, hu⟩ : ∃ u, (bump1 (bump1 pl h x) a y).getD h 0 = u := ⟨_, rfl⟩
        obtain ⟨v, hv⟩ : ∃ v, (bump1 (bump1 pl h x) a y).getD a 0 = v := ⟨_, rfl⟩
        have ub := bn2.get hhn
        have vb := bn2.get han
        rw [hu] at ub hS1
        rw [hv] at vb hS1
        rw [hpu] at pb0
        rw [hpv] at pb1
        obtain ⟨ou, hou⟩ : ∃ u', ol.getD h 0 = u' := ⟨_, rfl⟩
        obtain ⟨ov, hov⟩ : ∃ v', (bump1 ol h u).getD a 0 = v' := ⟨_, rfl⟩
        have ob0 := Hbo.out.get hhn
        have on1 := Hbo.out.bump (d := 360) hhn ub.1 (by omega)
        have ob1 := on1.get han
        have on2 := on1.bump (d := 360) han vb.1 (by omega)
        have ho1l : (bump1 ol h u).length = n := on1.len
        rw [hou] at ob0
        rw [hov] at ob1
        have hbn3 : Bnd n (6 * ((k + 1 : Nat) : Int)) (bump1 (bump1 pl h x) a y) := bn2.mono (by omega)
        have hbo3 : Bnd n (720 * ((k + 1 : Nat) : Int)) (bump1 (bump1 ol h u) a v) := on2.mono (by omega)
        have w1 : IntKind.i64.wrap (pu + x) = pu + x := IntWalk.i64_in _ (by omega)
        have w2 : IntKind.i64.wrap (pv + y) = pv + y := IntWalk.i64_in _ (by omega)
        have w3 : IntKind.i64.wrap (ou + u) = ou + u := IntWalk.i64_in _ (by omega)
        have w5 : IntKind.i64.wrap (ov + v) = ov + v := IntWalk.i64_in _ (by omega)
        obtain ⟨pb00, pb01⟩ := pb0
        obtain ⟨pb10, pb11⟩ := pb1
        obtain ⟨ub0, ub1⟩ := ub
        obtain ⟨vb0, vb1⟩ := vb
        obtain ⟨ob00, ob01⟩ := ob0
        obtain ⟨ob10, ob11⟩ := ob1
        obtain ⟨b0, b1, b2, b3⟩ := box4 wr (.int .i64 (h : Int)) (.int .i64 (a : Int)) (.int .i64 rg) (.int .i64 rt) 47
        have hbr : Below wr.heap.size wr (wr.alloc (.cells #[.int .i64 (h : Int), .int .i64 (a : Int), .int .i64 rg, .int .i64 rt] 47)) := (Below.refl _ _).alloc (Nat.le_refl _) _
        clear hro HS HS1 bn1 bn2 on1 on2
        have Hr := Lib.hid hr
        have Hcp := Lib.hid hcp
        have Hx := Lib.hid hx
        have Hy := Lib.hid hy
        have Hll := Lib.hid hll
        have Hlo := Lib.hid hlo
        have Hpu := Lib.hid hpu
        have Hpv := Lib.hid hpv
        have Hp1l := Lib.hid hp1l
        have Hp2l := Lib.hid hp2l
        have Hu := Lib.hid hu
        have Hv := Lib.hid hv
        have Hou := Lib.hid hou
        have Hov := Lib.hid hov
        have Ho1l := Lib.hid ho1l
        have Hbn3 := Lib.hid hbn3
        have Hbo3 := Lib.hid hbo3
        have HS1 := Lib.hid hS1
        have Hbr := Lib.hid hbr
        clear hr hcp hx hy hll hlo hpu hpv hp1l hp2l hu hv hou hov ho1l hbn3 hbo3 hS1 hbr
        go_wp2_with fail
        refine (Hcp.out _).mono ?_
        rintro e w5' ⟨rfl, hb5⟩
        have k5 := keep_of_below hb5
        have S0 := Lib.hid (k5 _ _ b0)
        have S1 := Lib.hid (k5 _ _ b1)
        have hb5w := Hbr.out.trans (hb5.mono Hbr.out.size)
        clear b0 b1 b2 b3 hb5 k5 a0 a1 a2 a3
        have HoP := Lib.hid (Hop.out.below (hb5w.mono (by omega)))
        have HoO := Lib.hid (Hoo.out.below (hb5w.mono (by omega)))
        have hd5 := Hd.out.trans (hb5w.mono Hd.out.size)
        have hzM : hM ≤ w5'.heap.size := Nat.le_trans hz hb5w.size
        clear Hd Hop Hoo hb5w Hbr
        have Hd := Lib.hid hd5
        clear hd5
        go_wp2
        obtain ⟨g1, q1, _, _, x1, y1, _⟩ := HoP.out.bump1 (i := h) (by rw [Hll.out]; exact hhn) x
        obtain rfl : GP = g1 := by injection q1 with q1; injection q1
        rw [Hpu.out] at x1
        have p0 := fun x : Past w5' => Past.cell S0.out x
        have p1 := fun x : Past w5' => Past.cell S1.out x
        have px := fun x : Past w5' => Past.cell x1 x
        clear x1 y1 q1
        refine wp_region_past_tail 11 (by kernel_rfl) (by kernel_rfl) ?_
        simp only [List.take_succ_cons, List.take_zero, List.drop_succ_cons, List.drop_zero]
        repeat (go_big_quiet_step ((fail)))
        refine wpQuiet_nil ?_
        intro wx hwx
        obtain ⟨⟨wy, hbx⟩, hw⟩ := hwx
        change wx = wy at hw
        subst hw
        have ho6 := HoP.out.below (hbx.mono (by omega))
        obtain ⟨g1, q1, gl, gh, x1, y1, ho7⟩ := ho6.bump1 (i := h) (by rw [Hll.out]; exact hhn) x
        obtain rfl : GP = g1 := by injection q1 with q1; injection q1
        rw [Hpu.out] at x1 ho7
        have hon := (Only.refl GP GO wx).setCell (g := GP) (k := h) gl gh (.int .i64 (pu + x))
        have hkx := keep_of_below hbx
        have hxs := hbx.size
        have s0 := cell_only hon (hkx _ _ S0.out) (.inr (show _ ≤ wr.heap.size by omega))
        have s1 := cell_only hon (hkx _ _ S1.out) (.inr (show _ ≤ wr.heap.size by omega))
        have hoo := (HoO.out.below (hbx.mono (by omega))).only hon (by omega) (by omega)
        have hd7 := (Hd.out.trans (hbx.mono Hd.out.size)).trans (below_of_only hon (by omega) (Nat.le_trans Hd.out.size hxs))
        have hz7 : hM ≤ (wx.setCell ⟨GP, h, none⟩ (.int .i64 (pu + x))).heap.size := by rw [setCell_size]; omega
        clear HoP HoO Hd S0 S1 hkx hon ho6 hbx p0 p1 px hzM
        have HoP := Lib.hid ho7
        have HoO := Lib.hid hoo
        have Hd := Lib.hid hd7
        have S0 := Lib.hid s0
        have S1 := Lib.hid s1
        have hzM := hz7
        clear ho7 hoo hd7 s0 s1 hz7 hxs
        go_wp2
        generalize wx.setCell ⟨GP, h, none⟩ (.int .i64 (pu + x)) = W1 at HoP HoO Hd S0 S1 hzM ⊢
        clear x1 y1 q1 gl gh
        obtain ⟨g1, q1, _, _, x1, y1, _⟩ := HoP.out.bump1 (i := a) (by rw [Hp1l.out]; exact han) y
        obtain rfl : GP = g1 := by injection q1 with q1; injection q1
        rw [Hpv.out] at x1
        have p0 := fun x : Past W1 => Past.cell S0.out x
        have p1 := fun x : Past W1 => Past.cell S1.out x
        have px := fun x : Past W1 => Past.cell x1 x
        clear x1 y1 q1
        refine wp_region_past_tail 11 (by kernel_rfl) (by kernel_rfl) ?_
        simp only [List.take_succ_cons, List.take_zero, List.drop_succ_cons, List.drop_zero]
        repeat (go_big_quiet_step ((fail)))
        refine wpQuiet_nil ?_
        intro wx hwx
        obtain ⟨⟨wy, hbx⟩, hw⟩ := hwx
        change wx = wy at hw
        subst hw
        have ho6 := HoP.out.below (hbx.mono (by omega))
        obtain ⟨g1, q1, gl, gh, x1, y1, ho7⟩ := ho6.bump1 (i := a) (by rw [Hp1l.out]; exact han) y
        obtain rfl : GP = g1 := by injection q1 with q1; injection q1
        rw [Hpv.out] at x1 ho7
        have hon := (Only.refl GP GO wx).setCell (g := GP) (k := a) gl gh (.int .i64 (pv + y))
        have hkx := keep_of_below hbx
        have hxs := hbx.size
        have s0 := cell_only hon (hkx _ _ S0.out) (.inr (show _ ≤ wr.heap.size by omega))
        have s1 := cell_only hon (hkx _ _ S1.out) (.inr (show _ ≤ wr.heap.size by omega))
        have hoo := (HoO.out.below (hbx.mono (by omega))).only hon (by omega) (by omega)
        have hd7 := (Hd.out.trans (hbx.mono Hd.out.size)).trans (below_of_only hon (by omega) (Nat.le_trans Hd.out.size hxs))
        have hz7 : hM ≤ (wx.setCell ⟨GP, a, none⟩ (.int .i64 (pv + y))).heap.size := by rw [setCell_size]; omega
        clear HoP HoO Hd S0 S1 hkx hon ho6 hbx p0 p1 px hzM
        have HoP := Lib.hid ho7
        have HoO := Lib.hid hoo
        have Hd := Lib.hid hd7
        have S0 := Lib.hid s0
        have S1 := Lib.hid s1
        have hzM := hz7
        clear ho7 hoo hd7 s0 s1 hz7 hxs
        go_wp2
        generalize wx.setCell ⟨GP, a, none⟩ (.int .i64 (pv + y)) = W2 at HoP HoO Hd S0 S1 hzM ⊢
        clear x1 y1 q1 gl gh
        obtain ⟨g1, q1, _, _, x1, y1, _⟩ := HoO.out.bump1 (i := h) (by rw [Hlo.out]; exact hhn) u
        obtain rfl : GO = g1 := by injection q1 with q1; injection q1
        rw [Hou.out] at x1
        obtain ⟨g1, q2, _, _, x2, y2, _⟩ := HoP.out.bump1 (i := h) (by rw [Hp2l.out]; exact hhn) 0
        obtain rfl : GP = g1 := by injection q2 with q2; injection q2
        rw [Hu.out] at x2
        have pp := fun x : Past W2 => Past.cell x2 x
        have p0 := fun x : Past W2 => Past.cell S0.out x
        have p1 := fun x : Past W2 => Past.cell S1.out x
        have px := fun x : Past W2 => Past.cell x1 x
        clear x1 y1 q1 x2 y2 q2
        refine wp_region_past_tail 15 (by kernel_rfl) (by kernel_rfl) ?_
        simp only [List.take_succ_cons, List.take_zero, List.drop_succ_cons, List.drop_zero]
        repeat (go_big_quiet_step ((fail)))
        refine wpQuiet_nil ?_
        intro wx hwx
        obtain ⟨⟨wy, hbx⟩, hw⟩ := hwx
        change wx = wy at hw
        subst hw
        have ho6 := HoO.out.below (hbx.mono (by omega))
        obtain ⟨g1, q1, gl, gh, x1, y1, ho7⟩ := ho6.bump1 (i := h) (by rw [Hlo.out]; exact hhn) u
        obtain rfl : GO = g1 := by injection q1 with q1; injection q1
        rw [Hou.out] at x1 ho7
        have hon := (Only.refl GO hM wx).setCell (g := GO) (k := h) gl gh (.int .i64 (ou + u))
        have hkx := keep_of_below hbx
        have hxs := hbx.size
        have s0 := cell_only hon (hkx _ _ S0.out) (.inr (show _ ≤ wr.heap.size by omega))
        have s1 := cell_only hon (hkx _ _ S1.out) (.inr (show _ ≤ wr.heap.size by omega))
        have hoo := (HoP.out.below (hbx.mono (by omega))).only hon (by omega) (by omega)
        have hd7 := (Hd.out.trans (hbx.mono Hd.out.size)).trans (below_of_only hon (by omega) (Nat.le_trans Hd.out.size hxs))
        have hz7 : hM ≤ (wx.setCell ⟨GO, h, none⟩ (.int .i64 (ou + u))).heap.size := by rw [setCell_size]; omega
        clear HoO HoP Hd S0 S1 hkx hon ho6 hbx p0 p1 px hzM pp
        have HoO := Lib.hid ho7
        have HoP := Lib.hid hoo
        have Hd := Lib.hid hd7
        have S0 := Lib.hid s0
        have S1 := Lib.hid s1
        have hzM := hz7
        clear ho7 hoo hd7 s0 s1 hz7 hxs
        go_wp2
        generalize wx.setCell ⟨GO, h, none⟩ (.int .i64 (ou + u)) = W3 at HoO HoP Hd S0 S1 hzM ⊢
        clear x1 y1 q1 gl gh
        obtain ⟨g1, q1, _, _, x1, y1, _⟩ := HoO.out.bump1 (i := a) (by rw [Ho1l.out]; exact han) v
        obtain rfl : GO = g1 := by injection q1 with q1; injection q1
        rw [Hov.out] at x1
        obtain ⟨g1, q2, _, _, x2, y2, _⟩ := HoP.out.bump1 (i := a) (by rw [Hp2l.out]; exact han) 0
        obtain rfl : GP = g1 := by injection q2 with q2; injection q2
        rw [Hv.out] at x2
        have pp := fun x : Past W3 => Past.cell x2 x
        have p0 := fun x : Past W3 => Past.cell S0.out x
        have p1 := fun x : Past W3 => Past.cell S1.out x
        have px := fun x : Past W3 => Past.cell x1 x
        clear x1 y1 q1 x2 y2 q2
        refine wp_region_past_tail 15 (by kernel_rfl) (by kernel_rfl) ?_
        simp only [List.take_succ_cons, List.take_zero, List.drop_succ_cons, List.drop_zero]
        repeat (go_big_quiet_step ((fail)))
        refine wpQuiet_nil ?_
        intro wx hwx
        obtain ⟨⟨wy, hbx⟩, hw⟩ := hwx
        change wx = wy at hw
        subst hw
        have ho6 := HoO.out.below (hbx.mono (by omega))
        obtain ⟨g1, q1, gl, gh, x1, y1, ho7⟩ := ho6.bump1 (i := a) (by rw [Ho1l.out]; exact han) v
        obtain rfl : GO = g1 := by injection q1 with q1; injection q1
        rw [Hov.out] at x1 ho7
        have hon := (Only.refl GO hM wx).setCell (g := GO) (k := a) gl gh (.int .i64 (ov + v))
        have hkx := keep_of_below hbx
        have hxs := hbx.size
        have s0 := cell_only hon (hkx _ _ S0.out) (.inr (show _ ≤ wr.heap.size by omega))
        have s1 := cell_only hon (hkx _ _ S1.out) (.inr (show _ ≤ wr.heap.size by omega))
        have hoo := (HoP.out.below (hbx.mono (by omega))).only hon (by omega) (by omega)
        have hd7 := (Hd.out.trans (hbx.mono Hd.out.size)).trans (below_of_only hon (by omega) (Nat.le_trans Hd.out.size hxs))
        have hz7 : hM ≤ (wx.setCell ⟨GO, a, none⟩ (.int .i64 (ov + v))).heap.size := by rw [setCell_size]; omega
        clear HoO HoP Hd S0 S1 hkx hon ho6 hbx p0 p1 px hzM pp
        have HoO := Lib.hid ho7
        have HoP := Lib.hid hoo
        have Hd := Lib.hid hd7
        have S0 := Lib.hid s0
        have S1 := Lib.hid s1
        have hzM := hz7
        clear ho7 hoo hd7 s0 s1 hz7 hxs
        go_wp2
        go_roundw
        case rel => exact ⟨k + 1, _, _, by omega, by go_num, Hbn3.out, Hbo3.out, HS1.out, HoP.out, HoO.out, Hd.out, hzM⟩
        case measure => simp [intOf]; omega
      · obtain rfl : k = m := by omega
        have HS1 : Hid (ol = R) := Lib.hid (by have := HS.out; rwa [drop_end (l := rs) (by rw [Hm.out]; exact Nat.le_refl _), proFold] at this)
        go_wp2
        go_ret
        rw [← HS1.out]
        exact ⟨some ⟨GO, 0, none⟩, n, by rw [Hbo.out.len]; rfl, Hoo.out.wide (by omega) hz, Hd.out⟩
end Go.Proofs.Ytehlijpjcjegcaa
