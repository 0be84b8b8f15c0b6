/- Contracts: OpponentSums and WeightedSums (reference), and what the sums are in plain Lean. -/
import Derived.Test.YtehlijpjcjegcaaUse
namespace Go.Proofs.Ytehlijpjcjegcaa
set_option linter.unusedSimpArgs false
set_option linter.unusedVariables false
open Go.RowKit

def sumStep (f : Res → Int → Int → Int) (P : List Int) (l : List Int) (r : Res) : List Int :=
  bump1 (bump1 l r.h.toNat (f r r.h (P.getD r.a.toNat 0))) r.a.toNat (f r r.a (P.getD r.h.toNat 0))
def sumFold (f : Res → Int → Int → Int) (P : List Int) : List Int → List Res → List Int
  | l, [] => l
  | l, r :: t => sumFold f P (sumStep f P l r) t
def sumsF (f : Res → Int → Int → Int) (n : Int) (rs : List Res) : List Int := if leagueOk n rs = true then sumFold f (pointsF n.toNat rs) (List.replicate n.toNat 0) rs else []
theorem map_set' {α β : Type} (g : α → β) (l : List α) (k : Nat) (x : α) : (l.set k x).map g = (l.map g).set k (g x) := by rw [List.map_set]
theorem put_sum (xss : List (List Int)) (k : Nat) (u : Int) (hk : k < xss.length) : (put1 xss k u).map List.sum = bump1 (xss.map List.sum) k u := by
  obtain ⟨xs, hx⟩ := some_of hk
  rw [put1, map_set', bump1, sum_snoc]
  rw [List.getD_eq_getElem?_getD, List.getD_eq_getElem?_getD, List.getElem?_map, hx]
  rfl
theorem put1_len (xss : List (List Int)) (k : Nat) (u : Int) : (put1 xss k u).length = xss.length := by simp [put1]
theorem add_sum (f : Res → Int → Int → Int) (P : List Int) (n : Nat) : ∀ (rs : List Res) (xss : List (List Int)), xss.length = n → (∀ r ∈ rs, resOk n r = true) → (addFold f P xss rs).map List.sum = sumFold f P (xss.map List.sum) rs
  | [], _, _, _ => rfl
  | r :: t, xss, hl, hok => by
    have hr := resOk_of (hok r (by simp))
    have h0 := hr.h0; have hn := hr.hn; have a0 := hr.a0; have an := hr.an
    have ih := add_sum f P n t (addStep f P xss r) (by rw [addStep, put1_len, put1_len]; exact hl) (fun r' hr' => hok r' (by simp [hr']))
    rw [addFold, ih, sumFold, addStep, sumStep, put_sum _ _ _ (by rw [put1_len]; omega), put_sum _ _ _ (by omega)]
theorem addends_sum (f : Res → Int → Int → Int) {n : Nat} {rs : List Res} (hok : leagueOk n rs = true) : (addendsF f n rs).map List.sum = sumsF f n rs := by
  rw [addendsF, add_sum f _ n rs _ (by simp) (league_of hok).ok, sumsF, if_pos hok]
  simp
theorem half_pts (h a g t : Int) : (ptsH ⟨h, a, g, t⟩ + 1).tdiv 2 = outF h g t h := by
  simp only [outF, ownG, othG, ptsH, cmpI, if_true]
  repeat' split
  all_goals first | omega | rfl
theorem half_ptsA (h a g t : Int) (hne : h ≠ a) : (ptsA ⟨h, a, g, t⟩ + 1).tdiv 2 = outF h g t a := by
  have : ¬ a = h := fun e => hne e.symm
  simp only [outF, ownG, othG, ptsA, cmpI, if_neg this]
  repeat' split
  all_goals first | omega | rfl


set_option maxRecDepth 100000 in
set_option maxHeartbeats 4000000 in
theorem sOpponentSums_c (n : Int) (A : Option Addr) (c : Nat) (rs : List Res) (w : World) (ha : Games w A rs) (hm : rs.length ≤ 1048576) :
    Calls Try.prog 22 #[lgv n A rs.length c] w (GivesI 3 w (sumsF fOpp n rs)) := by
  have hlc := fun W (h : Games W A rs) => sLeagueOk_c n A c rs W h hm
  obtain ⟨b0, b1⟩ := box2 w (.int .i64 n) (.slice A rs.length c) 29
  have hb1 : Below w.heap.size w (w.alloc (.cells #[.int .i64 n, .slice A rs.length c] 29)) := (Below.refl _ _).alloc (Nat.le_refl _) _
  cases hok : leagueOk n rs
  · have hv : sumsF fOpp n rs = [] := by rw [sumsF, if_neg (by simp [hok])]
    rw [hv]
    rw [hok] at hlc
    unfold lgv at hlc ⊢
    have Ha := Lib.hid ha
    have Hlc := Lib.hid hlc
    have Hb1 := Lib.hid hb1
    have Hok := Lib.hid hok
    clear ha hlc hb1 hok
    clear hv
    go_enter Try.func22, Try.ntmps22
    go_wp2_with fail
    refine (Hlc.out _ (Ha.out.keep (keep_of_below Hb1.out))).mono ?_
    rintro e w1 ⟨rfl, hb⟩
    go_wp2
    go_ret
    exact ⟨none, 0, rfl, Own.nil .., Hb1.out.trans (hb.mono Hb1.out.size)⟩
  · generalize hR : sumsF fOpp n rs = R
    have HR := Lib.hid hR
    clear hR
    have hL := league_of hok
    obtain ⟨n, rfl⟩ := Int.eq_ofNat_of_zero_le (show 0 ≤ n by have := hL.two; omega)
    have hn8 : n ≤ 8 := by have := hL.eight; omega
    have hm60 := hL.few
    have hrs := hL.ok
    have hpc := fun W (h : Games W A rs) => l12All_c n A c rs W h hok
    have hPb := ptFold_bnd rs _ 0 (bnd_zeros n 0 (Int.le_refl _)) hL.ok
    rw [show ptFold (List.replicate n 0) rs = pointsF n rs from rfl] at hPb
    rw [hok] at hlc
    have HS : Hid (sumFold fOpp (pointsF n rs) (List.replicate n 0) rs = R) := Lib.hid (by rw [← HR.out, sumsF, if_pos hok]; rfl)
    generalize pointsF n rs = P at hpc hPb HS
    unfold lgv at hlc hpc ⊢
    clear hm
    obtain ⟨m, hm⟩ : ∃ m, rs.length = m := ⟨_, rfl⟩
    rw [hm] at hm60 hlc hpc hPb hb1 b0 b1 ⊢
    have hP180 : ∀ x ∈ P, 0 ≤ x ∧ x ≤ 180 := fun x hx => by have := hPb.bd x hx; omega
    have hPl := hPb.len
    have Ha := Lib.hid ha
    have Hm := Lib.hid hm
    have Hrs := Lib.hid hrs
    have Hb1 := Lib.hid hb1
    have Hlc := Lib.hid hlc
    have Hpc := Lib.hid hpc
    have HP180 := Lib.hid hP180
    have HPl := Lib.hid hPl
    clear ha hm hrs hb1 hlc hpc hP180 hPl
    clear hL hok HR hPb
    go_enter Try.func22, Try.ntmps22
    go_wp2_with fail
    refine (Hlc.out _ (Ha.out.keep (keep_of_below Hb1.out))).mono ?_
    rintro e w1 ⟨rfl, hb⟩
    have c0 := keep_of_below hb _ _ b0
    have c1 := keep_of_below hb _ _ b1
    have Hb2 := Lib.hid (Hb1.out.trans (hb.mono Hb1.out.size))
    clear hb b0 b1 Hb1
    go_wp2_with fail
    refine (Hpc.out _ (Ha.out.keep (keep_of_below Hb2.out))).mono ?_
    rintro e w2 ⟨Bp, dp, rfl, hop, hb⟩
    have b0 := keep_of_below hb _ _ c0
    have b1 := keep_of_below hb _ _ c1
    have Hb3 := Lib.hid (Hb2.out.trans (hb.mono Hb2.out.size))
    have Hpi := Lib.hid hop.ints
    have hpl2 : ∀ (a : Addr), Bp = some a → a.block < w2.heap.size := fun a e => by subst e; exact hop.le.1
    have Hpl2 := Lib.hid hpl2
    clear hb c0 c1 Hb2 hop hpl2
    rw [HPl.out]
    go_wp2_with (refine wpList_mk _ rfl (.tmp 13) (.tmp 13) 33 rfl 3 (.int .i64 0) 8 Try.underlying33 info_int rfl n ?_ ?_ ?_ ?_ ?_; rfl; rfl; decide; omega; intro w3 homade hb3 hz3; (have c0 := keep_of_below hb3 _ _ b0); (have c1 := keep_of_below hb3 _ _ b1); have Ho := Lib.hid homade; (have Hb4 := Lib.hid (Hb3.out.trans (hb3.mono Hb3.out.size))); (have Hpi3 := Lib.hid (Hpi.out.keep (keep_of_below hb3))); clear homade hb3)
    obtain ⟨G, hG⟩ : ∃ G, w2.heap.size = G := ⟨_, rfl⟩
    have hGw : w.heap.size ≤ G := by rw [← hG]; exact Hb3.out.size
    have Ho1 : Hid (Own 3 G w3.heap.size w3 (some ⟨G, 0, none⟩) n ((List.replicate n (0 : Int)).map (.int .i64))) := Lib.hid (by rw [← hG]; simpa using Ho.out)
    rw [hG] at Hpl2 hz3
    simp only [hG]
    clear Ho Hb3 b0 b1 c0 c1 hG Hpi
    go_loopw [18] (fun i wr => ∃ (k : Nat) (l : List Int), k ≤ m ∧ i = .int .i64 k ∧ Bnd n (720 * (k : Int)) l ∧ sumFold fOpp P l (rs.drop k) = R ∧ Own 3 G w3.heap.size wr (some ⟨G, 0, none⟩) n (l.map (.int .i64)) ∧ Ints wr Bp P ∧ Below w.heap.size w wr ∧ w3.heap.size ≤ wr.heap.size) (fun i _ => m - (intOf i).toNat)
    case atStart => exact ⟨0, _, Nat.zero_le _, rfl, bnd_zeros n _ (by omega), HS.out, Ho1.out, Hpi3.out, Hb4.out, Nat.le_refl _⟩
    case round =>
      clear HS Ho1 Hb4 Hpi3
      obtain ⟨k, l, hk, rfl, hbn, hS, ho, hpi, hd, hz⟩ := hrel
      have Hd := Lib.hid hd
      have HS := Lib.hid hS
      have Ho := Lib.hid ho
      have Hbn := Lib.hid hbn
      have Hpi := Lib.hid hpi
      clear hd hS ho hbn hpi
      by_cases hlt : k < m
      · have hki : (k : Int) < (m : Int) := by omega
        obtain ⟨r, hr⟩ := some_of (l := rs) (k := k) (by rw [Hm.out]; exact hlt)
        have HS1 : Hid (sumFold fOpp P (sumStep fOpp P l r) (rs.drop (k + 1)) = R) := Lib.hid (by have := HS.out; rwa [drop_of hr, sumFold] at this)
        have hro := resOk_of (Hrs.out r (List.mem_of_getElem? hr))
        obtain ⟨ad, rfl, a0, a1, a2, a3⟩ := (Ha.out.keep (keep_of_below Hd.out)) k _ hr
        have eH := half_pts r.h r.a r.g r.t
        have eA := half_ptsA r.h r.a r.g r.t hro.ne
        have oH := outF_bd r.h r.g r.t r.h
        have oA := outF_bd r.h r.g r.t r.a
        have xH := ptsH_bd r
        have xA := ptsA_bd r
        obtain ⟨rh, ra, rg, rt⟩ := r
        obtain ⟨h, eh⟩ := Int.eq_ofNat_of_zero_le hro.h0
        obtain ⟨a, ea⟩ := Int.eq_ofNat_of_zero_le hro.a0
        simp only at eh ea a0 a1 a2 a3 eH eA oH oA
        subst eh ea
        have hhn : h < n := by have := hro.hn; simp only at this; omega
        have han : a < n := by have := hro.an; simp only at this; omega
        have hhi : (h : Int) < (n : Int) := by omega
        have hai : (a : Int) < (n : Int) := by omega
        obtain ⟨p, hp⟩ := some_of (l := P) (k := h) (by rw [HPl.out]; exact hhn)
        obtain ⟨q, hq⟩ := some_of (l := P) (k := a) (by rw [HPl.out]; exact han)
        have hp2 := HP180.out p (List.mem_of_getElem? hp)
        have hq2 := HP180.out q (List.mem_of_getElem? hq)
        obtain ⟨u, hu⟩ : ∃ u, fOpp ⟨h, a, rg, rt⟩ (h : Int) q = u := ⟨_, rfl⟩
        obtain ⟨v, hv⟩ : ∃ v, fOpp ⟨h, a, rg, rt⟩ (a : Int) p = v := ⟨_, rfl⟩
        have hub : 0 ≤ u ∧ u ≤ 360 := by rw [← hu, fOpp]; omega
        have hvb : 0 ≤ v ∧ v ≤ 360 := by rw [← hv, fOpp]; omega
        have hu2 : q = u := by rw [← hu, fOpp]
        have hv2 : p = v := by rw [← hv, fOpp]
        clear eH eA oH oA xH xA
        subst hu2 hv2
        have hub0 := hub.1
        have hub1 := hub.2
        have hvb0 := hvb.1
        have hvb1 := hvb.2
        have HS2 : Hid (sumFold fOpp P (bump1 (bump1 l h q) a p) (rs.drop (k + 1)) = R) := Lib.hid (by
          have := HS1.out
          simp only [sumStep, Int.toNat_natCast] at this
          rw [show P.getD a 0 = q from by rw [List.getD_eq_getElem?_getD, hq]; rfl, show P.getD h 0 = p from by rw [List.getD_eq_getElem?_getD, hp]; rfl, hu, hv] at this
          exact this)
        obtain ⟨b0, b1, b2, b3⟩ := box4 wr (.int .i64 (h : Int)) (.int .i64 (a : Int)) (.int .i64 rg) (.int .i64 rt) 47
        have hbr : Below wr.heap.size wr (wr.alloc (.cells #[.int .i64 (h : Int), .int .i64 (a : Int), .int .i64 rg, .int .i64 rt] 47)) := (Below.refl _ _).alloc (Nat.le_refl _) _
        have hll : l.length = n := Hbn.out.len
        obtain ⟨lu, hlu⟩ : ∃ q, l.getD h 0 = q := ⟨_, rfl⟩
        obtain ⟨lv, hlv⟩ : ∃ p, (bump1 l h q).getD a 0 = p := ⟨_, rfl⟩
        have hu0 := Hbn.out.get hhn
        have hbn1 := Hbn.out.bump hhn hub0 hub1
        have hv0 := hbn1.get han
        have hbn2 := hbn1.bump han hvb0 hvb1
        have hl2 : (bump1 l h q).length = n := hbn1.len
        rw [hlu] at hu0
        rw [hlv] at hv0
        have e1 : IntKind.i64.wrap (lu + q) = lu + q := IntWalk.i64_in _ (by omega)
        have e2 : IntKind.i64.wrap (lv + p) = lv + p := IntWalk.i64_in _ (by omega)
        have hbn3 : Bnd n (720 * ((k + 1 : Nat) : Int)) (bump1 (bump1 l h q) a p) := hbn2.mono (by omega)
        have hu01 := hu0.1
        have hu02 := hu0.2
        have hv01 := hv0.1
        have hv02 := hv0.2
        clear hub hvb hro HS HS1 hbn1 hbn2 hu0 hv0 hp2 hq2
        have Hr := Lib.hid hr
        have Hll := Lib.hid hll
        have Hl2 := Lib.hid hl2
        have Hbn3 := Lib.hid hbn3
        have Hu := Lib.hid hu
        have Hv := Lib.hid hv
        have Hbr := Lib.hid hbr
        have Hlu := Lib.hid hlu
        have Hlv := Lib.hid hlv
        have Hp := Lib.hid hp
        have Hq := Lib.hid hq
        clear hr hll hl2 hbn3 hu hv hbr hlu hlv hp hq
        go_wp2
        obtain ⟨w5, hw5⟩ : ∃ w5, w5 = wr.alloc (.cells #[.int .i64 (h : Int), .int .i64 (a : Int), .int .i64 rg, .int .i64 rt] 47) := ⟨_, rfl⟩
        rw [← hw5] at b0 b1 b2 b3 Hbr ⊢
        have r0 := b0
        have r1 := b1
        have hb5w := Hbr.out
        clear b0 b1 b2 b3 a0 a1 a2 a3 hw5
        have ho5 := Ho.out.below (hb5w.mono hz)
        obtain ⟨g1, q1, _, _, x1, y1, _⟩ := ho5.bump1 (i := h) (by rw [Hll.out]; exact hhn) q
        obtain rfl : G = g1 := by injection q1 with q1; injection q1
        rw [Hlu.out] at x1
        have hz5 : w3.heap.size ≤ w5.heap.size := Nat.le_trans hz hb5w.size
        have hd5 := Hd.out.trans (hb5w.mono Hd.out.size)
        have hpi5 := Hpi.out.keep (keep_of_below hb5w)
        obtain ⟨pd, rfl, hqc⟩ := hpi5 a q Hq.out
        have R0 := Lib.hid r0
        have R1 := Lib.hid r1
        have p0 := fun x : Past w5 => Past.cell r0 x
        have p1 := fun x : Past w5 => Past.cell r1 x
        have pp := fun x : Past w5 => Past.cell hqc x
        have px := fun x : Past w5 => Past.cell x1 x
        have Ho5 := Lib.hid ho5
        have Hd5 := Lib.hid hd5
        have Hpi5 := Lib.hid hpi5
        have Hb5w := Lib.hid hb5w
        clear ho5 hd5 hpi5 hb5w
        clear r0 r1 x1 y1 q1 hqc
        go_wp2
        refine wp_region_past_tail 15 (by kernel_rfl) (by kernel_rfl) ?_
        simp only [List.take_succ_cons, List.take_zero, List.drop_succ_cons, List.drop_zero]
        repeat (go_big_quiet_step ((fail)))
        refine wpQuiet_nil ?_
        intro wx hwx
        obtain ⟨⟨wy, hbx⟩, hw⟩ := hwx
        change wx = wy at hw
        subst hw
        have ho6 := Ho5.out.below (hbx.mono hz5)
        obtain ⟨g1, q1, gl, gh, x1, y1, ho7⟩ := ho6.bump1 (i := h) (by rw [Hll.out]; exact hhn) q
        obtain rfl : G = g1 := by injection q1 with q1; injection q1
        rw [Hlu.out] at x1 ho7
        have hon := (Only.refl G w3.heap.size wx).setCell (g := G) (k := h) gl gh (.int .i64 (lu + q))
        have hkx := keep_of_below hbx
        have s1 : (wx.setCell ⟨G, h, none⟩ (.int .i64 (lu + q))).cell? ⟨wr.heap.size, 1, none⟩ = some (.int .i64 (a : Int)) := cell_only hon (hkx _ _ R1.out) (.inr hz)
        have s0 : (wx.setCell ⟨G, h, none⟩ (.int .i64 (lu + q))).cell? ⟨wr.heap.size, 0, none⟩ = some (.int .i64 (h : Int)) := cell_only hon (hkx _ _ R0.out) (.inr hz)
        have hpi7 := only_at hon (Hpi5.out.keep hkx) Hpl2.out
        have hd7 := (Hd5.out.trans (hbx.mono Hd5.out.size)).trans (below_of_only hon hGw (Nat.le_trans Hd5.out.size hbx.size))
        have hz7 : w3.heap.size ≤ (wx.setCell ⟨G, h, none⟩ (.int .i64 (lu + q))).heap.size := by rw [setCell_size]; exact Nat.le_trans hz5 hbx.size
        have Ho7 := Lib.hid ho7
        have Hd7 := Lib.hid hd7
        have S0 := Lib.hid s0
        have S1 := Lib.hid s1
        have Hz7 := Lib.hid hz7
        have Hpi7 := Lib.hid hpi7
        clear ho7 hd7 s0 s1 hz7 hpi7
        clear hkx hon ho6 hbx p0 px p1 pp
        go_wp2
        generalize wx.setCell ⟨G, h, none⟩ (.int .i64 (lu + q)) = W1 at Ho7 Hd7 S1 Hz7 S0 Hpi7 ⊢
        clear x1 y1 q1
        obtain ⟨g1, q1, _, _, x1, y1, _⟩ := Ho7.out.bump1 (i := a) (by rw [Hl2.out]; exact han) p
        obtain rfl : G = g1 := by injection q1 with q1; injection q1
        rw [Hlv.out] at x1
        obtain ⟨pd2, epd, hpc2⟩ := Hpi7.out h p Hp.out
        obtain rfl : pd = pd2 := by injection epd
        have p1 := fun x : Past W1 => Past.cell S1.out x
        have p0 := fun x : Past W1 => Past.cell S0.out x
        have pp := fun x : Past W1 => Past.cell hpc2 x
        have px := fun x : Past W1 => Past.cell x1 x
        clear x1 y1 q1 epd hpc2
        refine wp_region_past_tail 15 (by kernel_rfl) (by kernel_rfl) ?_
        simp only [List.take_succ_cons, List.take_zero, List.drop_succ_cons, List.drop_zero]
        repeat (go_big_quiet_step ((fail)))
        refine wpQuiet_nil ?_
        intro wx hwx
        obtain ⟨⟨wy, hbx⟩, hw⟩ := hwx
        change wx = wy at hw
        subst hw
        have ho8 := Ho7.out.below (hbx.mono Hz7.out)
        obtain ⟨g1, q1, gl, gh, x1, y1, ho9⟩ := ho8.bump1 (i := a) (by rw [Hl2.out]; exact han) p
        obtain rfl : G = g1 := by injection q1 with q1; injection q1
        rw [Hlv.out] at x1 ho9
        have hon := (Only.refl G w3.heap.size wx).setCell (g := G) (k := a) gl gh (.int .i64 (lv + p))
        have hd9 := (Hd7.out.trans (hbx.mono Hd7.out.size)).trans (below_of_only hon hGw (Nat.le_trans Hd7.out.size hbx.size))
        have hz9 : w3.heap.size ≤ (wx.setCell ⟨G, a, none⟩ (.int .i64 (lv + p))).heap.size := by rw [setCell_size]; exact Nat.le_trans Hz7.out hbx.size
        have hpi9 := only_at hon (Hpi7.out.keep (keep_of_below hbx)) Hpl2.out
        have Ho9 := Lib.hid ho9
        have Hd9 := Lib.hid hd9
        have Hz9 := Lib.hid hz9
        have Hpi9 := Lib.hid hpi9
        clear ho9 hd9 hz9 hpi9
        clear hon ho8 hbx p1 px p0 pp
        go_wp2
        go_roundw
        case rel => exact ⟨k + 1, _, by omega, by go_num, Hbn3.out, HS2.out, Ho9.out, Hpi9.out, Hd9.out, Hz9.out⟩
        case measure => simp [intOf]; omega
      · obtain rfl : k = m := by omega
        have HS1 : Hid (l = R) := Lib.hid (by have := HS.out; rwa [drop_end (l := rs) (by rw [Hm.out]; exact Nat.le_refl _), sumFold] at this)
        go_wp2
        go_ret
        rw [← HS1.out]
        exact ⟨some ⟨G, 0, none⟩, n, by rw [Hbn.out.len]; rfl, Ho.out.wide hGw hz, Hd.out⟩

set_option maxRecDepth 100000 in
set_option maxHeartbeats 4000000 in
theorem sWeightedSums_c (n : Int) (A : Option Addr) (c : Nat) (rs : List Res) (w : World) (ha : Games w A rs) (hm : rs.length ≤ 1048576) :
    Calls Try.prog 24 #[lgv n A rs.length c] w (GivesI 3 w (sumsF fWei n rs)) := by
  have hlc := fun W (h : Games W A rs) => sLeagueOk_c n A c rs W h hm
  obtain ⟨b0, b1⟩ := box2 w (.int .i64 n) (.slice A rs.length c) 29
  have hb1 : Below w.heap.size w (w.alloc (.cells #[.int .i64 n, .slice A rs.length c] 29)) := (Below.refl _ _).alloc (Nat.le_refl _) _
  cases hok : leagueOk n rs
  · have hv : sumsF fWei n rs = [] := by rw [sumsF, if_neg (by simp [hok])]
    rw [hv]
    rw [hok] at hlc
    unfold lgv at hlc ⊢
    have Ha := Lib.hid ha
    have Hlc := Lib.hid hlc
    have Hb1 := Lib.hid hb1
    have Hok := Lib.hid hok
    clear ha hlc hb1 hok
    clear hv
    go_enter Try.func24, Try.ntmps24
    go_wp2_with fail
    refine (Hlc.out _ (Ha.out.keep (keep_of_below Hb1.out))).mono ?_
    rintro e w1 ⟨rfl, hb⟩
    go_wp2
    go_ret
    exact ⟨none, 0, rfl, Own.nil .., Hb1.out.trans (hb.mono Hb1.out.size)⟩
  · generalize hR : sumsF fWei n rs = R
    have HR := Lib.hid hR
    clear hR
    have hL := league_of hok
    obtain ⟨n, rfl⟩ := Int.eq_ofNat_of_zero_le (show 0 ≤ n by have := hL.two; omega)
    have hn8 : n ≤ 8 := by have := hL.eight; omega
    have hm60 := hL.few
    have hrs := hL.ok
    have hpc := fun W (h : Games W A rs) => l12All_c n A c rs W h hok
    have hPb := ptFold_bnd rs _ 0 (bnd_zeros n 0 (Int.le_refl _)) hL.ok
    rw [show ptFold (List.replicate n 0) rs = pointsF n rs from rfl] at hPb
    rw [hok] at hlc
    have HS : Hid (sumFold fWei (pointsF n rs) (List.replicate n 0) rs = R) := Lib.hid (by rw [← HR.out, sumsF, if_pos hok]; rfl)
    generalize pointsF n rs = P at hpc hPb HS
    unfold lgv at hlc hpc ⊢
    clear hm
    obtain ⟨m, hm⟩ : ∃ m, rs.length = m := ⟨_, rfl⟩
    rw [hm] at hm60 hlc hpc hPb hb1 b0 b1 ⊢
    have hP180 : ∀ x ∈ P, 0 ≤ x ∧ x ≤ 180 := fun x hx => by have := hPb.bd x hx; omega
    have hPl := hPb.len
    have Ha := Lib.hid ha
    have Hm := Lib.hid hm
    have Hrs := Lib.hid hrs
    have Hb1 := Lib.hid hb1
    have Hlc := Lib.hid hlc
    have Hpc := Lib.hid hpc
    have HP180 := Lib.hid hP180
    have HPl := Lib.hid hPl
    clear ha hm hrs hb1 hlc hpc hP180 hPl
    clear hL hok HR hPb
    go_enter Try.func24, Try.ntmps24
    go_wp2_with fail
    refine (Hlc.out _ (Ha.out.keep (keep_of_below Hb1.out))).mono ?_
    rintro e w1 ⟨rfl, hb⟩
    have c0 := keep_of_below hb _ _ b0
    have c1 := keep_of_below hb _ _ b1
    have Hb2 := Lib.hid (Hb1.out.trans (hb.mono Hb1.out.size))
    clear hb b0 b1 Hb1
    go_wp2_with fail
    refine (Hpc.out _ (Ha.out.keep (keep_of_below Hb2.out))).mono ?_
    rintro e w2 ⟨Bp, dp, rfl, hop, hb⟩
    have b0 := keep_of_below hb _ _ c0
    have b1 := keep_of_below hb _ _ c1
    have Hb3 := Lib.hid (Hb2.out.trans (hb.mono Hb2.out.size))
    have Hpi := Lib.hid hop.ints
    have hpl2 : ∀ (a : Addr), Bp = some a → a.block < w2.heap.size := fun a e => by subst e; exact hop.le.1
    have Hpl2 := Lib.hid hpl2
    clear hb c0 c1 Hb2 hop hpl2
    rw [HPl.out]
    go_wp2_with (refine wpList_mk _ rfl (.tmp 15) (.tmp 15) 33 rfl 3 (.int .i64 0) 8 Try.underlying33 info_int rfl n ?_ ?_ ?_ ?_ ?_; rfl; rfl; decide; omega; intro w3 homade hb3 hz3; (have c0 := keep_of_below hb3 _ _ b0); (have c1 := keep_of_below hb3 _ _ b1); have Ho := Lib.hid homade; (have Hb4 := Lib.hid (Hb3.out.trans (hb3.mono Hb3.out.size))); (have Hpi3 := Lib.hid (Hpi.out.keep (keep_of_below hb3))); clear homade hb3)
    obtain ⟨G, hG⟩ : ∃ G, w2.heap.size = G := ⟨_, rfl⟩
    have hGw : w.heap.size ≤ G := by rw [← hG]; exact Hb3.out.size
    have Ho1 : Hid (Own 3 G w3.heap.size w3 (some ⟨G, 0, none⟩) n ((List.replicate n (0 : Int)).map (.int .i64))) := Lib.hid (by rw [← hG]; simpa using Ho.out)
    rw [hG] at Hpl2 hz3
    simp only [hG]
    clear Ho Hb3 b0 b1 c0 c1 hG Hpi
    go_loopw [20] (fun i wr => ∃ (k : Nat) (l : List Int), k ≤ m ∧ i = .int .i64 k ∧ Bnd n (720 * (k : Int)) l ∧ sumFold fWei P l (rs.drop k) = R ∧ Own 3 G w3.heap.size wr (some ⟨G, 0, none⟩) n (l.map (.int .i64)) ∧ Ints wr Bp P ∧ Below w.heap.size w wr ∧ w3.heap.size ≤ wr.heap.size) (fun i _ => m - (intOf i).toNat)
    case atStart => exact ⟨0, _, Nat.zero_le _, rfl, bnd_zeros n _ (by omega), HS.out, Ho1.out, Hpi3.out, Hb4.out, Nat.le_refl _⟩
    case round =>
      clear HS Ho1 Hb4 Hpi3
      obtain ⟨k, l, hk, rfl, hbn, hS, ho, hpi, hd, hz⟩ := hrel
      have Hd := Lib.hid hd
      have HS := Lib.hid hS
      have Ho := Lib.hid ho
      have Hbn := Lib.hid hbn
      have Hpi := Lib.hid hpi
      clear hd hS ho hbn hpi
      by_cases hlt : k < m
      · have hki : (k : Int) < (m : Int) := by omega
        obtain ⟨r, hr⟩ := some_of (l := rs) (k := k) (by rw [Hm.out]; exact hlt)
        have HS1 : Hid (sumFold fWei P (sumStep fWei P l r) (rs.drop (k + 1)) = R) := Lib.hid (by have := HS.out; rwa [drop_of hr, sumFold] at this)
        have hro := resOk_of (Hrs.out r (List.mem_of_getElem? hr))
        obtain ⟨ad, rfl, a0, a1, a2, a3⟩ := (Ha.out.keep (keep_of_below Hd.out)) k _ hr
        have eH := half_pts r.h r.a r.g r.t
        have eA := half_ptsA r.h r.a r.g r.t hro.ne
        have oH := outF_bd r.h r.g r.t r.h
        have oA := outF_bd r.h r.g r.t r.a
        have xH := ptsH_bd r
        have xA := ptsA_bd r
        obtain ⟨rh, ra, rg, rt⟩ := r
        obtain ⟨h, eh⟩ := Int.eq_ofNat_of_zero_le hro.h0
        obtain ⟨a, ea⟩ := Int.eq_ofNat_of_zero_le hro.a0
        simp only at eh ea a0 a1 a2 a3 eH eA oH oA
        subst eh ea
        have hhn : h < n := by have := hro.hn; simp only at this; omega
        have han : a < n := by have := hro.an; simp only at this; omega
        have hhi : (h : Int) < (n : Int) := by omega
        have hai : (a : Int) < (n : Int) := by omega
        obtain ⟨p, hp⟩ := some_of (l := P) (k := h) (by rw [HPl.out]; exact hhn)
        obtain ⟨q, hq⟩ := some_of (l := P) (k := a) (by rw [HPl.out]; exact han)
        have hp2 := HP180.out p (List.mem_of_getElem? hp)
        have hq2 := HP180.out q (List.mem_of_getElem? hq)
        obtain ⟨u, hu⟩ : ∃ u, fWei ⟨h, a, rg, rt⟩ (h : Int) q = u := ⟨_, rfl⟩
        obtain ⟨v, hv⟩ : ∃ v, fWei ⟨h, a, rg, rt⟩ (a : Int) p = v := ⟨_, rfl⟩
        obtain ⟨x, hx⟩ : ∃ x, ptsH ⟨h, a, rg, rt⟩ = x := ⟨_, rfl⟩
        obtain ⟨y, hy⟩ : ∃ y, ptsA ⟨h, a, rg, rt⟩ = y := ⟨_, rfl⟩
        have hcp := fun W => l12Points_c (h : Int) (a : Int) rg rt W
        simp only [hx, hy] at hcp eH eA xH xA
        obtain ⟨o1, ho1⟩ : ∃ o, outF (h : Int) rg rt (h : Int) = o := ⟨_, rfl⟩
        obtain ⟨o2, ho2⟩ : ∃ o, outF (h : Int) rg rt (a : Int) = o := ⟨_, rfl⟩
        rw [ho1] at eH oH
        rw [ho2] at eA oA
        have hu2 : q * o1 = u := by rw [← hu, fWei, ho1]
        have hv2 : p * o2 = v := by rw [← hv, fWei, ho2]
        have hub := wei_bd hq2.1 hq2.2 oH.1 oH.2
        have hvb := wei_bd hp2.1 hp2.2 oA.1 oA.2
        rw [hu2] at hub
        rw [hv2] at hvb
        have e5 : IntKind.i64.wrap (x + 1) = x + 1 := IntWalk.i64_in _ (by omega)
        have e6 : IntKind.i64.wrap (y + 1) = y + 1 := IntWalk.i64_in _ (by omega)
        have e7 : IntKind.i64.wrap (o1 * q) = u := by rw [Int.mul_comm, hu2]; exact IntWalk.i64_in _ (by omega)
        have e8 : IntKind.i64.wrap (o2 * p) = v := by rw [Int.mul_comm, hv2]; exact IntWalk.i64_in _ (by omega)
        have f5 : wrap64 o1 = o1 := IntWalk.wrap64_in _ (by omega)
        have f6 : wrap64 o2 = o2 := IntWalk.wrap64_in _ (by omega)
        have f7 : wrap64 (o1 * q) = u := (IntWalk.i64_left _).symm.trans e7
        have f8 : wrap64 (o2 * p) = v := (IntWalk.i64_left _).symm.trans e8
        have Hcp := Lib.hid hcp
        have Hx := Lib.hid hx
        have Hy := Lib.hid hy
        have Ho1 := Lib.hid ho1
        have Ho2 := Lib.hid ho2
        have Hu2 := Lib.hid hu2
        have Hv2 := Lib.hid hv2
        clear hcp hx hy ho1 ho2 hu2 hv2
        clear oH oA xH xA
        have hub0 := hub.1
        have hub1 := hub.2
        have hvb0 := hvb.1
        have hvb1 := hvb.2
        have HS2 : Hid (sumFold fWei P (bump1 (bump1 l h u) a v) (rs.drop (k + 1)) = R) := Lib.hid (by
          have := HS1.out
          simp only [sumStep, Int.toNat_natCast] at this
          rw [show P.getD a 0 = q from by rw [List.getD_eq_getElem?_getD, hq]; rfl, show P.getD h 0 = p from by rw [List.getD_eq_getElem?_getD, hp]; rfl, hu, hv] at this
          exact this)
        obtain ⟨b0, b1, b2, b3⟩ := box4 wr (.int .i64 (h : Int)) (.int .i64 (a : Int)) (.int .i64 rg) (.int .i64 rt) 47
        have hbr : Below wr.heap.size wr (wr.alloc (.cells #[.int .i64 (h : Int), .int .i64 (a : Int), .int .i64 rg, .int .i64 rt] 47)) := (Below.refl _ _).alloc (Nat.le_refl _) _
        have hll : l.length = n := Hbn.out.len
        obtain ⟨lu, hlu⟩ : ∃ u, l.getD h 0 = u := ⟨_, rfl⟩
        obtain ⟨lv, hlv⟩ : ∃ v, (bump1 l h u).getD a 0 = v := ⟨_, rfl⟩
        have hu0 := Hbn.out.get hhn
        have hbn1 := Hbn.out.bump hhn hub0 hub1
        have hv0 := hbn1.get han
        have hbn2 := hbn1.bump han hvb0 hvb1
        have hl2 : (bump1 l h u).length = n := hbn1.len
        rw [hlu] at hu0
        rw [hlv] at hv0
        have e1 : IntKind.i64.wrap (lu + u) = lu + u := IntWalk.i64_in _ (by omega)
        have e2 : IntKind.i64.wrap (lv + v) = lv + v := IntWalk.i64_in _ (by omega)
        have hbn3 : Bnd n (720 * ((k + 1 : Nat) : Int)) (bump1 (bump1 l h u) a v) := hbn2.mono (by omega)
        have hu01 := hu0.1
        have hu02 := hu0.2
        have hv01 := hv0.1
        have hv02 := hv0.2
        clear hub hvb hro HS HS1 hbn1 hbn2 hu0 hv0 hp2 hq2
        have Hr := Lib.hid hr
        have Hll := Lib.hid hll
        have Hl2 := Lib.hid hl2
        have Hbn3 := Lib.hid hbn3
        have Hu := Lib.hid hu
        have Hv := Lib.hid hv
        have Hbr := Lib.hid hbr
        have Hlu := Lib.hid hlu
        have Hlv := Lib.hid hlv
        have Hp := Lib.hid hp
        have Hq := Lib.hid hq
        clear hr hll hl2 hbn3 hu hv hbr hlu hlv hp hq
        go_wp2_with fail
        refine (Hcp.out _).mono ?_
        rintro e w5 ⟨rfl, hb5⟩
        have k5 := keep_of_below hb5
        have r0 := k5 _ _ b0
        have r1 := k5 _ _ b1
        have hb5w := Hbr.out.trans (hb5.mono Hbr.out.size)
        clear b0 b1 b2 b3 hb5 k5 a0 a1 a2 a3
        have ho5 := Ho.out.below (hb5w.mono hz)
        obtain ⟨g1, q1, _, _, x1, y1, _⟩ := ho5.bump1 (i := h) (by rw [Hll.out]; exact hhn) u
        obtain rfl : G = g1 := by injection q1 with q1; injection q1
        rw [Hlu.out] at x1
        have hz5 : w3.heap.size ≤ w5.heap.size := Nat.le_trans hz hb5w.size
        have hd5 := Hd.out.trans (hb5w.mono Hd.out.size)
        have hpi5 := Hpi.out.keep (keep_of_below hb5w)
        obtain ⟨pd, rfl, hqc⟩ := hpi5 a q Hq.out
        have R0 := Lib.hid r0
        have R1 := Lib.hid r1
        have p0 := fun x : Past w5 => Past.cell r0 x
        have p1 := fun x : Past w5 => Past.cell r1 x
        have pp := fun x : Past w5 => Past.cell hqc x
        have px := fun x : Past w5 => Past.cell x1 x
        have Ho5 := Lib.hid ho5
        have Hd5 := Lib.hid hd5
        have Hpi5 := Lib.hid hpi5
        have Hb5w := Lib.hid hb5w
        clear ho5 hd5 hpi5 hb5w
        clear r0 r1 x1 y1 q1 hqc
        go_wp2
        refine wp_region_past_tail 19 (by kernel_rfl) (by kernel_rfl) ?_
        simp only [List.take_succ_cons, List.take_zero, List.drop_succ_cons, List.drop_zero]
        repeat (go_big_quiet_step ((fail)))
        refine wpQuiet_nil ?_
        intro wx hwx
        obtain ⟨⟨wy, hbx⟩, hw⟩ := hwx
        change wx = wy at hw
        subst hw
        have ho6 := Ho5.out.below (hbx.mono hz5)
        obtain ⟨g1, q1, gl, gh, x1, y1, ho7⟩ := ho6.bump1 (i := h) (by rw [Hll.out]; exact hhn) u
        obtain rfl : G = g1 := by injection q1 with q1; injection q1
        rw [Hlu.out] at x1 ho7
        have hon := (Only.refl G w3.heap.size wx).setCell (g := G) (k := h) gl gh (.int .i64 (lu + u))
        have hkx := keep_of_below hbx
        have s1 : (wx.setCell ⟨G, h, none⟩ (.int .i64 (lu + u))).cell? ⟨wr.heap.size, 1, none⟩ = some (.int .i64 (a : Int)) := cell_only hon (hkx _ _ R1.out) (.inr hz)
        have s0 : (wx.setCell ⟨G, h, none⟩ (.int .i64 (lu + u))).cell? ⟨wr.heap.size, 0, none⟩ = some (.int .i64 (h : Int)) := cell_only hon (hkx _ _ R0.out) (.inr hz)
        have hpi7 := only_at hon (Hpi5.out.keep hkx) Hpl2.out
        have hd7 := (Hd5.out.trans (hbx.mono Hd5.out.size)).trans (below_of_only hon hGw (Nat.le_trans Hd5.out.size hbx.size))
        have hz7 : w3.heap.size ≤ (wx.setCell ⟨G, h, none⟩ (.int .i64 (lu + u))).heap.size := by rw [setCell_size]; exact Nat.le_trans hz5 hbx.size
        have Ho7 := Lib.hid ho7
        have Hd7 := Lib.hid hd7
        have S0 := Lib.hid s0
        have S1 := Lib.hid s1
        have Hz7 := Lib.hid hz7
        have Hpi7 := Lib.hid hpi7
        clear ho7 hd7 s0 s1 hz7 hpi7
        clear hkx hon ho6 hbx p0 px p1 pp
        go_wp2
        generalize wx.setCell ⟨G, h, none⟩ (.int .i64 (lu + u)) = W1 at Ho7 Hd7 S1 Hz7 S0 Hpi7 ⊢
        clear x1 y1 q1
        obtain ⟨g1, q1, _, _, x1, y1, _⟩ := Ho7.out.bump1 (i := a) (by rw [Hl2.out]; exact han) v
        obtain rfl : G = g1 := by injection q1 with q1; injection q1
        rw [Hlv.out] at x1
        obtain ⟨pd2, epd, hpc2⟩ := Hpi7.out h p Hp.out
        obtain rfl : pd = pd2 := by injection epd
        have p1 := fun x : Past W1 => Past.cell S1.out x
        have p0 := fun x : Past W1 => Past.cell S0.out x
        have pp := fun x : Past W1 => Past.cell hpc2 x
        have px := fun x : Past W1 => Past.cell x1 x
        clear x1 y1 q1 epd hpc2
        refine wp_region_past_tail 19 (by kernel_rfl) (by kernel_rfl) ?_
        simp only [List.take_succ_cons, List.take_zero, List.drop_succ_cons, List.drop_zero]
        repeat (go_big_quiet_step ((fail)))
        refine wpQuiet_nil ?_
        intro wx hwx
        obtain ⟨⟨wy, hbx⟩, hw⟩ := hwx
        change wx = wy at hw
        subst hw
        have ho8 := Ho7.out.below (hbx.mono Hz7.out)
        obtain ⟨g1, q1, gl, gh, x1, y1, ho9⟩ := ho8.bump1 (i := a) (by rw [Hl2.out]; exact han) v
        obtain rfl : G = g1 := by injection q1 with q1; injection q1
        rw [Hlv.out] at x1 ho9
        have hon := (Only.refl G w3.heap.size wx).setCell (g := G) (k := a) gl gh (.int .i64 (lv + v))
        have hd9 := (Hd7.out.trans (hbx.mono Hd7.out.size)).trans (below_of_only hon hGw (Nat.le_trans Hd7.out.size hbx.size))
        have hz9 : w3.heap.size ≤ (wx.setCell ⟨G, a, none⟩ (.int .i64 (lv + v))).heap.size := by rw [setCell_size]; exact Nat.le_trans Hz7.out hbx.size
        have hpi9 := only_at hon (Hpi7.out.keep (keep_of_below hbx)) Hpl2.out
        have Ho9 := Lib.hid ho9
        have Hd9 := Lib.hid hd9
        have Hz9 := Lib.hid hz9
        have Hpi9 := Lib.hid hpi9
        clear ho9 hd9 hz9 hpi9
        clear hon ho8 hbx p1 px p0 pp
        go_wp2
        go_roundw
        case rel => exact ⟨k + 1, _, by omega, by go_num, Hbn3.out, HS2.out, Ho9.out, Hpi9.out, Hd9.out, Hz9.out⟩
        case measure => simp [intOf]; omega
      · obtain rfl : k = m := by omega
        have HS1 : Hid (l = R) := Lib.hid (by have := HS.out; rwa [drop_end (l := rs) (by rw [Hm.out]; exact Nat.le_refl _), sumFold] at this)
        go_wp2
        go_ret
        rw [← HS1.out]
        exact ⟨some ⟨G, 0, none⟩, n, by rw [Hbn.out.len]; rfl, Ho.out.wide hGw hz, Hd.out⟩

end Go.Proofs.Ytehlijpjcjegcaa
