/- Contracts: the points of all clubs (program and reference). -/
import Derived.Test.YtehlijpjcjegcaaLgI
namespace Go.Proofs.Ytehlijpjcjegcaa
set_option linter.unusedSimpArgs false
set_option linter.unusedVariables false
open Go.RowKit

def bump1 (l : List Int) (i : Nat) (v : Int) : List Int := l.set i (l.getD i 0 + v)
structure Bnd (n : Nat) (b : Int) (l : List Int) : Prop where
  len : l.length = n
  bd : ∀ x ∈ l, 0 ≤ x ∧ x ≤ b
theorem bump1_len (l : List Int) (i : Nat) (v : Int) : (bump1 l i v).length = l.length := by simp [bump1]
theorem Bnd.get {n : Nat} {b : Int} {l : List Int} (h : Bnd n b l) {i : Nat} (hi : i < n) : 0 ≤ l.getD i 0 ∧ l.getD i 0 ≤ b := by
  obtain ⟨x, hx⟩ := some_of (l := l) (k := i) (by rw [h.len]; exact hi)
  rw [List.getD_eq_getElem?_getD, hx]
  exact h.bd x (List.mem_of_getElem? hx)
theorem Bnd.bump {n : Nat} {b d : Int} {l : List Int} (h : Bnd n b l) {i : Nat} (hi : i < n) {v : Int} (h0 : 0 ≤ v) (h1 : v ≤ d) : Bnd n (b + d) (bump1 l i v) := by
  refine ⟨by rw [bump1_len]; exact h.len, fun x hx => ?_⟩
  have h2 := h.get hi
  rcases List.mem_or_eq_of_mem_set hx with hx | rfl
  · have := h.bd x hx; omega
  · omega
theorem Bnd.mono {n : Nat} {b d : Int} {l : List Int} (h : Bnd n b l) (hbd : b ≤ d) : Bnd n d l := ⟨h.len, fun x hx => by have := h.bd x hx; omega⟩
theorem bnd_zeros (n : Nat) (b : Int) (hb : 0 ≤ b) : Bnd n b (List.replicate n 0) := ⟨by simp, fun x hx => by rw [List.mem_replicate] at hx; omega⟩
/-- One number of an own row made greater. -/
theorem Own.bump1 {T : TypeId} {lo hi : Nat} {w : World} {A : Option Addr} {c : Nat} {l : List Int} (h : Own T lo hi w A c (l.map (.int .i64))) {i : Nat} (hi' : i < l.length) (v : Int) :
    ∃ g, A = some ⟨g, 0, none⟩ ∧ lo ≤ g ∧ g < hi ∧ w.cell? ⟨g, i, none⟩ = some (.int .i64 (l.getD i 0)) ∧ w.frozen? ⟨g, i, none⟩ = false ∧
      Own T lo hi (w.setCell ⟨g, i, none⟩ (.int .i64 (l.getD i 0 + v))) A c ((Go.Proofs.Ytehlijpjcjegcaa.bump1 l i v).map (.int .i64)) := by
  obtain ⟨x, hx⟩ := some_of hi'
  obtain ⟨g, rfl, h1, h2, hc, hf⟩ := ownr h hx
  have e : l.getD i 0 = x := by rw [List.getD_eq_getElem?_getD, hx]; rfl
  rw [e]
  refine ⟨g, rfl, h1, h2, hc, hf, ?_⟩
  unfold Go.Proofs.Ytehlijpjcjegcaa.bump1
  rw [e]
  exact h.seti i _

def ptStep (l : List Int) (r : Res) : List Int := bump1 (bump1 l r.h.toNat (ptsH r)) r.a.toNat (ptsA r)
def ptFold : List Int → List Res → List Int
  | l, [] => l
  | l, r :: t => ptFold (ptStep l r) t
def pointsF (n : Nat) (rs : List Res) : List Int := ptFold (List.replicate n 0) rs
theorem ptsH_bd (r : Res) : 0 ≤ ptsH r ∧ ptsH r ≤ 3 := by unfold ptsH; split <;> (try split) <;> omega
theorem ptsA_bd (r : Res) : 0 ≤ ptsA r ∧ ptsA r ≤ 3 := by unfold ptsA; split <;> (try split) <;> omega
theorem pts3_h (h a g t : Int) : pts3 (outF h g t h) = ptsH ⟨h, a, g, t⟩ := by
  simp only [outF, ownG, othG, ptsH, cmpI, pts3, if_true]
  repeat' split
  all_goals omega
theorem pts3_a (h a g t : Int) (hne : h ≠ a) : pts3 (outF h g t a) = ptsA ⟨h, a, g, t⟩ := by
  have : ¬ a = h := fun e => hne e.symm
  simp only [outF, ownG, othG, ptsA, cmpI, pts3, if_neg this]
  repeat' split
  all_goals omega
theorem ptFold_bnd {n : Nat} (rs : List Res) : ∀ (l : List Int) (b : Int), Bnd n b l → (∀ r ∈ rs, resOk n r = true) → Bnd n (b + 3 * (rs.length : Int)) (ptFold l rs) := by
  induction rs with
  | nil => intro l b h _; simpa [ptFold] using h
  | cons r t ih =>
    intro l b h hok
    have hr := resOk_of (hok r (by simp))
    obtain ⟨a1, a2⟩ := ptsH_bd r
    obtain ⟨b1, b2⟩ := ptsA_bd r
    have h0 := hr.h0; have hn := hr.hn; have a0 := hr.a0; have an := hr.an
    have hne := hr.ne
    have hs : Bnd n (b + 3) (ptStep l r) := by
      have s1 : Bnd n (b + 3) (bump1 l r.h.toNat (ptsH r)) := h.bump (by omega) a1 a2
      refine ⟨by rw [ptStep, bump1_len]; exact s1.len, fun x hx => ?_⟩
      rcases List.mem_or_eq_of_mem_set hx with hx | rfl
      · exact s1.bd x hx
      · have e : (bump1 l r.h.toNat (ptsH r)).getD r.a.toNat 0 = l.getD r.a.toNat 0 := by
          rw [List.getD_eq_getElem?_getD, List.getD_eq_getElem?_getD, bump1, List.getElem?_set_ne (by omega)]
        rw [e]
        have := h.get (i := r.a.toNat) (by omega)
        omega
    have := ih _ _ hs (fun r' hr' => hok r' (by simp [hr']))
    rw [ptFold, List.length_cons, Int.natCast_add, show b + 3 * ((t.length : Int) + ((1 : Nat) : Int)) = b + 3 + 3 * (t.length : Int) from by omega]
    exact this

theorem cell_only {lo hi : Nat} {w w' : World} {p : Addr} {v : Value} (h : Only lo hi w w') (hc : w.cell? p = some v) (hd : p.block < lo ∨ hi ≤ p.block) : w'.cell? p = some v := by
  have h1 := block_lt_of_cell hc
  have h2 := h.block p.block h1 (by omega)
  unfold World.cell? at hc ⊢
  rw [h2]; exact hc


set_option maxRecDepth 100000 in
set_option maxHeartbeats 4000000 in
theorem l12All_c (n : Nat) (A : Option Addr) (c : Nat) (rs : List Res) (w : World) (ha : Games w A rs) (hok : leagueOk n rs = true) :
    Calls Try.prog 42 #[lgv n A rs.length c] w (GivesI 3 w (pointsF n rs)) := by
  generalize hR : pointsF n rs = R
  have HR := Lib.hid hR
  clear hR
  have hL := league_of hok
  have hn8 : n ≤ 8 := by have := hL.eight; omega
  have hm60 := hL.few
  have hrs := hL.ok
  unfold lgv
  obtain ⟨m, hm⟩ : ∃ m, rs.length = m := ⟨_, rfl⟩
  rw [hm] at hm60 ⊢
  obtain ⟨b0, b1⟩ := box2 w (.int .i64 (n : Int)) (.slice A m c) 29
  have hb1 : Below w.heap.size w (w.alloc (.cells #[.int .i64 (n : Int), .slice A m c] 29)) := (Below.refl _ _).alloc (Nat.le_refl _) _
  have HS : Hid (ptFold (List.replicate n 0) rs = R) := Lib.hid (by rw [← HR.out]; rfl)
  have Ha := Lib.hid ha
  have Hm := Lib.hid hm
  have Hrs := Lib.hid hrs
  have Hb1 := Lib.hid hb1
  clear ha hm hrs hb1
  clear hL hok HR
  go_enter Try.func42, Try.ntmps42
  go_wp2_with (refine wpList_mk _ rfl (.tmp 9) (.tmp 9) 33 rfl 3 (.int .i64 0) 8 Try.underlying33 info_int rfl n ?_ ?_ ?_ ?_ ?_; rfl; rfl; decide; omega; intro w3 homade hb3 hz3; (have c0 := keep_of_below hb3 _ _ b0); (have c1 := keep_of_below hb3 _ _ b1); have Ho := Lib.hid homade; (have Hb3 := Lib.hid (Hb1.out.trans (hb3.mono Hb1.out.size))); clear homade hb3)
  obtain ⟨G, hG⟩ : ∃ G, (w.alloc (.cells #[.int .i64 (n : Int), .slice A m c] 29)).heap.size = G := ⟨_, rfl⟩
  have hGw : w.heap.size ≤ G := by rw [← hG]; exact Hb1.out.size
  have Ho1 : Hid (Own 3 G w3.heap.size w3 (some ⟨G, 0, none⟩) n ((List.replicate n (0 : Int)).map (.int .i64))) := Lib.hid (by rw [← hG]; simpa using Ho.out)
  have Hg3 := Lib.hid (Ha.out.keep (keep_of_below Hb3.out))
  have hz3 := Hb3.out.size
  have hG2 : w.heap.size + 1 = G := by rw [← hG]; simp
  simp only [hG2]
  clear Ho Hb1 b0 b1 c0 c1 hG hG2
  go_loopw [14] (fun i wr => ∃ (k : Nat) (l : List Int), k ≤ m ∧ i = .int .i64 k ∧ Bnd n (6 * (k : Int)) l ∧ ptFold l (rs.drop k) = R ∧ Own 3 G w3.heap.size wr (some ⟨G, 0, none⟩) n (l.map (.int .i64)) ∧ Below w.heap.size w wr ∧ Keep w wr ∧ w3.heap.size ≤ wr.heap.size) (fun i _ => m - (intOf i).toNat)
  case atStart => exact ⟨0, _, Nat.zero_le _, rfl, bnd_zeros n _ (by omega), HS.out, Ho1.out, Hb3.out, keep_of_below Hb3.out, Nat.le_refl _⟩
  case round =>
    clear HS Ho1 Hb3
    obtain ⟨k, l, hk, rfl, hbn, hS, ho, hd, hkp, hz⟩ := hrel
    have Hd := Lib.hid hd
    have HS := Lib.hid hS
    have Ho := Lib.hid ho
    have Hbn := Lib.hid hbn
    have Hkp := Lib.hid hkp
    clear hd hS ho hbn hkp
    by_cases hlt : k < m
    · have hki : (k : Int) < (m : Int) := by omega
      obtain ⟨r, hr⟩ := some_of (l := rs) (k := k) (by rw [Hm.out]; exact hlt)
      have HS1 : Hid (ptFold (ptStep l r) (rs.drop (k + 1)) = R) := Lib.hid (by have := HS.out; rwa [drop_of hr, ptFold] at this)
      have hro := resOk_of (Hrs.out r (List.mem_of_getElem? hr))
      obtain ⟨ad, rfl, a0, a1, a2, a3⟩ := (Ha.out.keep Hkp.out) k _ hr
      have hpb := ptsH_bd r
      have hqb := ptsA_bd r
      obtain ⟨p, hp⟩ : ∃ p, ptsH r = p := ⟨_, rfl⟩
      obtain ⟨q, hq⟩ : ∃ q, ptsA r = q := ⟨_, rfl⟩
      have eH := pts3_h r.h r.a r.g r.t
      have eA := pts3_a r.h r.a r.g r.t hro.ne
      obtain ⟨rh, ra, rg, rt⟩ := r
      obtain ⟨h, eh⟩ := Int.eq_ofNat_of_zero_le hro.h0
      obtain ⟨a, ea⟩ := Int.eq_ofNat_of_zero_le hro.a0
      simp only at eh ea a0 a1 a2 a3 eH eA
      subst eh ea
      have hhn : h < n := by have := hro.hn; simp only at this; omega
      have han : a < n := by have := hro.an; simp only at this; omega
      have hhi : (h : Int) < (n : Int) := by omega
      have hai : (a : Int) < (n : Int) := by omega
      rw [hp] at hpb eH
      rw [hq] at hqb eA
      have hp0 := hpb.1
      have hp1 := hpb.2
      have hq0 := hqb.1
      have hq1 := hqb.2
      have HS2 : Hid (ptFold (bump1 (bump1 l h p) a q) (rs.drop (k + 1)) = R) := Lib.hid (by have := HS1.out; rw [ptStep, hp, hq] at this; exact this)
      obtain ⟨b0, b1, b2, b3⟩ := box4 wr (.int .i64 (h : Int)) (.int .i64 (a : Int)) (.int .i64 rg) (.int .i64 rt) 47
      have hbr : Below wr.heap.size wr (wr.alloc (.cells #[.int .i64 (h : Int), .int .i64 (a : Int), .int .i64 rg, .int .i64 rt] 47)) := (Below.refl _ _).alloc (Nat.le_refl _) _
      have hll : l.length = n := Hbn.out.len
      obtain ⟨u, hu⟩ : ∃ u, l.getD h 0 = u := ⟨_, rfl⟩
      obtain ⟨v, hv⟩ : ∃ v, (bump1 l h p).getD a 0 = v := ⟨_, rfl⟩
      have hu0 := Hbn.out.get hhn
      have hbn1 := Hbn.out.bump hhn hp0 hp1
      have hv0 := hbn1.get han
      have hbn2 := hbn1.bump han hq0 hq1
      have hl2 : (bump1 l h p).length = n := hbn1.len
      rw [hu] at hu0
      rw [hv] at hv0
      have hu1 := hu0.1
      have hu2 := hu0.2
      have hv1 := hv0.1
      have hv2 := hv0.2
      have e1 : IntKind.i64.wrap (u + p) = u + p := IntWalk.i64_in _ (by omega)
      have e2 : IntKind.i64.wrap (v + q) = v + q := IntWalk.i64_in _ (by omega)
      have hbn3 : Bnd n (6 * ((k + 1 : Nat) : Int)) (bump1 (bump1 l h p) a q) := hbn2.mono (by omega)
      have hcp := fun W => l12Points_c (h : Int) (a : Int) rg rt W
      rw [hp, hq] at hcp
      have Hcp := Lib.hid hcp
      clear hcp
      clear hp hq hpb hqb hro HS HS1 hbn1 hbn2 hu0 hv0 eH eA
      have Hr := Lib.hid hr
      have Hll := Lib.hid hll
      have Hl2 := Lib.hid hl2
      have Hbn3 := Lib.hid hbn3
      have Hu := Lib.hid hu
      have Hv := Lib.hid hv
      have Hbr := Lib.hid hbr
      clear hr hll hl2 hbn3 hu hv hbr
      go_wp2_with fail
      refine (Hcp.out _).mono ?_
      rintro e w5 ⟨rfl, hb5⟩
      have k5 := keep_of_below hb5
      have r0 := k5 _ _ b0
      have r1 := k5 _ _ b1
      have hb5w := Hbr.out.trans (hb5.mono Hbr.out.size)
      clear b0 b1 b2 b3 hb5 k5 a0 a1 a2 a3
      have ho5 := Ho.out.below (hb5w.mono hz)
      obtain ⟨g1, q1, _, _, x1, y1, _⟩ := ho5.bump1 (i := h) (by rw [Hll.out]; exact hhn) p
      obtain rfl : G = g1 := by injection q1 with q1; injection q1
      rw [Hu.out] at x1
      have hz5 : w3.heap.size ≤ w5.heap.size := Nat.le_trans hz hb5w.size
      have hd5 := Hd.out.trans (hb5w.mono Hd.out.size)
      have hk5 := Hkp.out.trans (keep_of_below hb5w)
      have R1 := Lib.hid r1
      have p0 := fun x : Past w5 => Past.cell r0 x
      have px := fun x : Past w5 => Past.cell x1 x
      have Ho5 := Lib.hid ho5
      have Hd5 := Lib.hid hd5
      have Hk5 := Lib.hid hk5
      have Hb5w := Lib.hid hb5w
      clear ho5 hd5 hk5 hb5w
      clear r0 r1 x1 y1 q1
      go_wp2
      refine wp_region_past_tail 11 (by kernel_rfl) (by kernel_rfl) ?_
      simp only [List.take_succ_cons, List.take_zero, List.drop_succ_cons, List.drop_zero]
      repeat (go_big_quiet_step ((fail)))
      refine wpQuiet_nil ?_
      intro wx hwx
      obtain ⟨⟨wy, hbx⟩, hw⟩ := hwx
      change wx = wy at hw
      subst hw
      have hbx' := hbx
      have ho6 := Ho5.out.below (hbx.mono hz5)
      obtain ⟨g1, q1, gl, gh, x1, y1, ho7⟩ := ho6.bump1 (i := h) (by rw [Hll.out]; exact hhn) p
      obtain rfl : G = g1 := by injection q1 with q1; injection q1
      rw [Hu.out] at x1 ho7
      have hon := (Only.refl G w3.heap.size wx).setCell (g := G) (k := h) gl gh (.int .i64 (u + p))
      have hkx := keep_of_below hbx
      have s1 : (wx.setCell ⟨G, h, none⟩ (.int .i64 (u + p))).cell? ⟨wr.heap.size, 1, none⟩ = some (.int .i64 (a : Int)) := cell_only hon (hkx _ _ R1.out) (.inr hz)
      have hd7 := (Hd5.out.trans (hbx.mono Hd5.out.size)).trans (below_of_only hon hGw (Nat.le_trans Hd5.out.size hbx.size))
      have hz7 : w3.heap.size ≤ (wx.setCell ⟨G, h, none⟩ (.int .i64 (u + p))).heap.size := by rw [setCell_size]; exact Nat.le_trans hz5 hbx.size
      have Ho7 := Lib.hid ho7
      have Hd7 := Lib.hid hd7
      have S1 := Lib.hid s1
      have Hz7 := Lib.hid hz7
      clear ho7 hd7 s1 hz7
      clear hkx hon ho6 hbx hbx' p0 px
      go_wp2
      generalize wx.setCell ⟨G, h, none⟩ (.int .i64 (u + p)) = W1 at Ho7 Hd7 S1 Hz7 ⊢
      clear x1 y1 q1
      obtain ⟨g1, q1, _, _, x1, y1, _⟩ := Ho7.out.bump1 (i := a) (by rw [Hl2.out]; exact han) q
      obtain rfl : G = g1 := by injection q1 with q1; injection q1
      rw [Hv.out] at x1
      have p1 := fun x : Past W1 => Past.cell S1.out x
      have px := fun x : Past W1 => Past.cell x1 x
      clear x1 y1 q1
      refine wp_region_past_tail 11 (by kernel_rfl) (by kernel_rfl) ?_
      simp only [List.take_succ_cons, List.take_zero, List.drop_succ_cons, List.drop_zero]
      repeat (go_big_quiet_step ((fail)))
      refine wpQuiet_nil ?_
      intro wx hwx
      obtain ⟨⟨wy, hbx⟩, hw⟩ := hwx
      change wx = wy at hw
      subst hw
      have ho8 := Ho7.out.below (hbx.mono Hz7.out)
      obtain ⟨g1, q1, gl, gh, x1, y1, ho9⟩ := ho8.bump1 (i := a) (by rw [Hl2.out]; exact han) q
      obtain rfl : G = g1 := by injection q1 with q1; injection q1
      rw [Hv.out] at x1 ho9
      have hon := (Only.refl G w3.heap.size wx).setCell (g := G) (k := a) gl gh (.int .i64 (v + q))
      have hd9 := (Hd7.out.trans (hbx.mono Hd7.out.size)).trans (below_of_only hon hGw (Nat.le_trans Hd7.out.size hbx.size))
      have hz9 : w3.heap.size ≤ (wx.setCell ⟨G, a, none⟩ (.int .i64 (v + q))).heap.size := by rw [setCell_size]; exact Nat.le_trans Hz7.out hbx.size
      have Ho9 := Lib.hid ho9
      have Hd9 := Lib.hid hd9
      have Hz9 := Lib.hid hz9
      clear ho9 hd9 hz9
      clear hon ho8 hbx p1 px
      go_wp2
      go_roundw
      case rel => exact ⟨k + 1, _, by omega, by go_num, Hbn3.out, HS2.out, Ho9.out, Hd9.out, keep_of_below Hd9.out, Hz9.out⟩
      case measure => simp [intOf]; omega
    · obtain rfl : k = m := by omega
      have HS1 : Hid (l = R) := Lib.hid (by have := HS.out; rwa [drop_end (l := rs) (by rw [Hm.out]; exact Nat.le_refl _), ptFold] at this)
      go_wp2
      go_ret
      rw [← HS1.out]
      exact ⟨some ⟨G, 0, none⟩, n, by rw [Hbn.out.len]; rfl, Ho.out.wide hGw hz, Hd.out⟩

set_option maxRecDepth 100000 in
set_option maxHeartbeats 4000000 in
theorem points_c (n : Nat) (A : Option Addr) (c : Nat) (rs : List Res) (w : World) (ha : Games w A rs) (hok : leagueOk n rs = true) :
    Calls Try.prog 69 #[lgv n A rs.length c] w (GivesI 3 w (pointsF n rs)) := by
  generalize hR : pointsF n rs = R
  have HR := Lib.hid hR
  clear hR
  have hL := league_of hok
  have hn8 : n ≤ 8 := by have := hL.eight; omega
  have hm60 := hL.few
  have hrs := hL.ok
  unfold lgv
  obtain ⟨m, hm⟩ : ∃ m, rs.length = m := ⟨_, rfl⟩
  rw [hm] at hm60 ⊢
  obtain ⟨b0, b1⟩ := box2 w (.int .i64 (n : Int)) (.slice A m c) 29
  have hb1 : Below w.heap.size w (w.alloc (.cells #[.int .i64 (n : Int), .slice A m c] 29)) := (Below.refl _ _).alloc (Nat.le_refl _) _
  have HS : Hid (ptFold (List.replicate n 0) rs = R) := Lib.hid (by rw [← HR.out]; rfl)
  have Ha := Lib.hid ha
  have Hm := Lib.hid hm
  have Hrs := Lib.hid hrs
  have Hb1 := Lib.hid hb1
  clear ha hm hrs hb1
  clear hL hok HR
  go_enter Try.func69, Try.ntmps69
  go_wp2_with (refine wpList_mk _ rfl (.tmp 7) (.tmp 7) 33 rfl 3 (.int .i64 0) 8 Try.underlying33 info_int rfl n ?_ ?_ ?_ ?_ ?_; rfl; rfl; decide; omega; intro w3 homade hb3 hz3; (have c0 := keep_of_below hb3 _ _ b0); (have c1 := keep_of_below hb3 _ _ b1); have Ho := Lib.hid homade; (have Hb3 := Lib.hid (Hb1.out.trans (hb3.mono Hb1.out.size))); clear homade hb3)
  obtain ⟨G, hG⟩ : ∃ G, (w.alloc (.cells #[.int .i64 (n : Int), .slice A m c] 29)).heap.size = G := ⟨_, rfl⟩
  have hGw : w.heap.size ≤ G := by rw [← hG]; exact Hb1.out.size
  have Ho1 : Hid (Own 3 G w3.heap.size w3 (some ⟨G, 0, none⟩) n ((List.replicate n (0 : Int)).map (.int .i64))) := Lib.hid (by rw [← hG]; simpa using Ho.out)
  have Hg3 := Lib.hid (Ha.out.keep (keep_of_below Hb3.out))
  have hz3 := Hb3.out.size
  have hG2 : w.heap.size + 1 = G := by rw [← hG]; simp
  simp only [hG2]
  clear Ho Hb1 b0 b1 c0 c1 hG hG2
  go_loopw [12] (fun i wr => ∃ (k : Nat) (l : List Int), k ≤ m ∧ i = .int .i64 k ∧ Bnd n (6 * (k : Int)) l ∧ ptFold l (rs.drop k) = R ∧ Own 3 G w3.heap.size wr (some ⟨G, 0, none⟩) n (l.map (.int .i64)) ∧ Below w.heap.size w wr ∧ Keep w wr ∧ w3.heap.size ≤ wr.heap.size) (fun i _ => m - (intOf i).toNat)
  case atStart => exact ⟨0, _, Nat.zero_le _, rfl, bnd_zeros n _ (by omega), HS.out, Ho1.out, Hb3.out, keep_of_below Hb3.out, Nat.le_refl _⟩
  case round =>
    clear HS Ho1 Hb3
    obtain ⟨k, l, hk, rfl, hbn, hS, ho, hd, hkp, hz⟩ := hrel
    have Hd := Lib.hid hd
    have HS := Lib.hid hS
    have Ho := Lib.hid ho
    have Hbn := Lib.hid hbn
    have Hkp := Lib.hid hkp
    clear hd hS ho hbn hkp
    by_cases hlt : k < m
    · have hki : (k : Int) < (m : Int) := by omega
      obtain ⟨r, hr⟩ := some_of (l := rs) (k := k) (by rw [Hm.out]; exact hlt)
      have HS1 : Hid (ptFold (ptStep l r) (rs.drop (k + 1)) = R) := Lib.hid (by have := HS.out; rwa [drop_of hr, ptFold] at this)
      have hro := resOk_of (Hrs.out r (List.mem_of_getElem? hr))
      obtain ⟨ad, rfl, a0, a1, a2, a3⟩ := (Ha.out.keep Hkp.out) k _ hr
      have hpb := ptsH_bd r
      have hqb := ptsA_bd r
      obtain ⟨p, hp⟩ : ∃ p, ptsH r = p := ⟨_, rfl⟩
      obtain ⟨q, hq⟩ : ∃ q, ptsA r = q := ⟨_, rfl⟩
      have eH := pts3_h r.h r.a r.g r.t
      have eA := pts3_a r.h r.a r.g r.t hro.ne
      obtain ⟨rh, ra, rg, rt⟩ := r
      obtain ⟨h, eh⟩ := Int.eq_ofNat_of_zero_le hro.h0
      obtain ⟨a, ea⟩ := Int.eq_ofNat_of_zero_le hro.a0
      simp only at eh ea a0 a1 a2 a3 eH eA
      subst eh ea
      have hhn : h < n := by have := hro.hn; simp only at this; omega
      have han : a < n := by have := hro.an; simp only at this; omega
      have hhi : (h : Int) < (n : Int) := by omega
      have hai : (a : Int) < (n : Int) := by omega
      rw [hp] at hpb eH
      rw [hq] at hqb eA
      have hp0 := hpb.1
      have hp1 := hpb.2
      have hq0 := hqb.1
      have hq1 := hqb.2
      have HS2 : Hid (ptFold (bump1 (bump1 l h p) a q) (rs.drop (k + 1)) = R) := Lib.hid (by have := HS1.out; rw [ptStep, hp, hq] at this; exact this)
      obtain ⟨b0, b1, b2, b3⟩ := box4 wr (.int .i64 (h : Int)) (.int .i64 (a : Int)) (.int .i64 rg) (.int .i64 rt) 47
      have hbr : Below wr.heap.size wr (wr.alloc (.cells #[.int .i64 (h : Int), .int .i64 (a : Int), .int .i64 rg, .int .i64 rt] 47)) := (Below.refl _ _).alloc (Nat.le_refl _) _
      have hll : l.length = n := Hbn.out.len
      obtain ⟨u, hu⟩ : ∃ u, l.getD h 0 = u := ⟨_, rfl⟩
      obtain ⟨v, hv⟩ : ∃ v, (bump1 l h p).getD a 0 = v := ⟨_, rfl⟩
      have hu0 := Hbn.out.get hhn
      have hbn1 := Hbn.out.bump hhn hp0 hp1
      have hv0 := hbn1.get han
      have hbn2 := hbn1.bump han hq0 hq1
      have hl2 : (bump1 l h p).length = n := hbn1.len
      rw [hu] at hu0
      rw [hv] at hv0
      have hu1 := hu0.1
      have hu2 := hu0.2
      have hv1 := hv0.1
      have hv2 := hv0.2
      have e1 : IntKind.i64.wrap (u + p) = u + p := IntWalk.i64_in _ (by omega)
      have e2 : IntKind.i64.wrap (v + q) = v + q := IntWalk.i64_in _ (by omega)
      have hbn3 : Bnd n (6 * ((k + 1 : Nat) : Int)) (bump1 (bump1 l h p) a q) := hbn2.mono (by omega)
      have hcp := fun W => gives_v (pointsFor_c (h : Int) (a : Int) rg rt (h : Int) W) (congrArg (Value.int .i64) eH)
      have hcq := fun W => gives_v (pointsFor_c (h : Int) (a : Int) rg rt (a : Int) W) (congrArg (Value.int .i64) eA)
      have Hcp := Lib.hid hcp
      have Hcq := Lib.hid hcq
      clear hcp hcq
      clear hp hq hpb hqb hro HS HS1 hbn1 hbn2 hu0 hv0 eH eA
      have Hr := Lib.hid hr
      have Hll := Lib.hid hll
      have Hl2 := Lib.hid hl2
      have Hbn3 := Lib.hid hbn3
      have Hu := Lib.hid hu
      have Hv := Lib.hid hv
      have Hbr := Lib.hid hbr
      clear hr hll hl2 hbn3 hu hv hbr
      go_wp2
      obtain ⟨w5, hw5⟩ : ∃ w5, w5 = wr.alloc (.cells #[.int .i64 (h : Int), .int .i64 (a : Int), .int .i64 rg, .int .i64 rt] 47) := ⟨_, rfl⟩
      rw [← hw5] at b0 b1 b2 b3 Hbr ⊢
      have r0 := b0
      have r1 := b1
      have r2 := b2
      have r3 := b3
      have hb5w := Hbr.out
      clear b0 b1 b2 b3 a0 a1 a2 a3 hw5
      have ho5 := Ho.out.below (hb5w.mono hz)
      obtain ⟨g1, q1, _, _, x1, y1, _⟩ := ho5.bump1 (i := h) (by rw [Hll.out]; exact hhn) p
      obtain rfl : G = g1 := by injection q1 with q1; injection q1
      rw [Hu.out] at x1
      have hz5 : w3.heap.size ≤ w5.heap.size := Nat.le_trans hz hb5w.size
      have hd5 := Hd.out.trans (hb5w.mono Hd.out.size)
      have hk5 := Hkp.out.trans (keep_of_below hb5w)
      have R1 := Lib.hid r1
      have R0 := Lib.hid r0
      have R2 := Lib.hid r2
      have R3 := Lib.hid r3
      have p2 := fun x : Past w5 => Past.cell r2 x
      have p3 := fun x : Past w5 => Past.cell r3 x
      have p1 := fun x : Past w5 => Past.cell r1 x
      have p0 := fun x : Past w5 => Past.cell r0 x
      have px := fun x : Past w5 => Past.cell x1 x
      have Ho5 := Lib.hid ho5
      have Hd5 := Lib.hid hd5
      have Hk5 := Lib.hid hk5
      have Hb5w := Lib.hid hb5w
      clear ho5 hd5 hk5 hb5w
      clear r0 r1 x1 y1 q1 r2 r3
      go_wp2
      refine wp_region_past_tail 11 (by kernel_rfl) (by kernel_rfl) ?_
      simp only [List.take_succ_cons, List.take_zero, List.drop_succ_cons, List.drop_zero]
      repeat (go_big_quiet_step ((go_at_call 52; exact past_gives (Hcp.out _))))
      refine wpQuiet_nil ?_
      intro wx hwx
      obtain ⟨⟨wy, hbx⟩, hw⟩ := hwx
      change wx = wy at hw
      subst hw
      have hbx' := hbx
      have ho6 := Ho5.out.below (hbx.mono hz5)
      obtain ⟨g1, q1, gl, gh, x1, y1, ho7⟩ := ho6.bump1 (i := h) (by rw [Hll.out]; exact hhn) p
      obtain rfl : G = g1 := by injection q1 with q1; injection q1
      rw [Hu.out] at x1 ho7
      have hon := (Only.refl G w3.heap.size wx).setCell (g := G) (k := h) gl gh (.int .i64 (u + p))
      have hkx := keep_of_below hbx
      have s1 : (wx.setCell ⟨G, h, none⟩ (.int .i64 (u + p))).cell? ⟨wr.heap.size, 1, none⟩ = some (.int .i64 (a : Int)) := cell_only hon (hkx _ _ R1.out) (.inr hz)
      have s0 : (wx.setCell ⟨G, h, none⟩ (.int .i64 (u + p))).cell? ⟨wr.heap.size, 0, none⟩ = some (.int .i64 (h : Int)) := cell_only hon (hkx _ _ R0.out) (.inr hz)
      have s2 : (wx.setCell ⟨G, h, none⟩ (.int .i64 (u + p))).cell? ⟨wr.heap.size, 2, none⟩ = some (.int .i64 rg) := cell_only hon (hkx _ _ R2.out) (.inr hz)
      have s3 : (wx.setCell ⟨G, h, none⟩ (.int .i64 (u + p))).cell? ⟨wr.heap.size, 3, none⟩ = some (.int .i64 rt) := cell_only hon (hkx _ _ R3.out) (.inr hz)
      have hd7 := (Hd5.out.trans (hbx.mono Hd5.out.size)).trans (below_of_only hon hGw (Nat.le_trans Hd5.out.size hbx.size))
      have hz7 : w3.heap.size ≤ (wx.setCell ⟨G, h, none⟩ (.int .i64 (u + p))).heap.size := by rw [setCell_size]; exact Nat.le_trans hz5 hbx.size
      have Ho7 := Lib.hid ho7
      have Hd7 := Lib.hid hd7
      have S0 := Lib.hid s0
      have S2 := Lib.hid s2
      have S3 := Lib.hid s3
      have S1 := Lib.hid s1
      have Hz7 := Lib.hid hz7
      clear ho7 hd7 s0 s2 s3 s1 hz7
      clear hkx hon ho6 hbx hbx' p0 px p1 p2 p3
      go_wp2
      generalize wx.setCell ⟨G, h, none⟩ (.int .i64 (u + p)) = W1 at Ho7 Hd7 S1 Hz7 S0 S2 S3 ⊢
      clear x1 y1 q1
      obtain ⟨g1, q1, _, _, x1, y1, _⟩ := Ho7.out.bump1 (i := a) (by rw [Hl2.out]; exact han) q
      obtain rfl : G = g1 := by injection q1 with q1; injection q1
      rw [Hv.out] at x1
      have p1 := fun x : Past W1 => Past.cell S1.out x
      have p0 := fun x : Past W1 => Past.cell S0.out x
      have p2 := fun x : Past W1 => Past.cell S2.out x
      have p3 := fun x : Past W1 => Past.cell S3.out x
      have px := fun x : Past W1 => Past.cell x1 x
      clear x1 y1 q1
      refine wp_region_past_tail 11 (by kernel_rfl) (by kernel_rfl) ?_
      simp only [List.take_succ_cons, List.take_zero, List.drop_succ_cons, List.drop_zero]
      repeat (go_big_quiet_step ((go_at_call 52; exact past_gives (Hcq.out _))))
      refine wpQuiet_nil ?_
      intro wx hwx
      obtain ⟨⟨wy, hbx⟩, hw⟩ := hwx
      change wx = wy at hw
      subst hw
      have ho8 := Ho7.out.below (hbx.mono Hz7.out)
      obtain ⟨g1, q1, gl, gh, x1, y1, ho9⟩ := ho8.bump1 (i := a) (by rw [Hl2.out]; exact han) q
      obtain rfl : G = g1 := by injection q1 with q1; injection q1
      rw [Hv.out] at x1 ho9
      have hon := (Only.refl G w3.heap.size wx).setCell (g := G) (k := a) gl gh (.int .i64 (v + q))
      have hd9 := (Hd7.out.trans (hbx.mono Hd7.out.size)).trans (below_of_only hon hGw (Nat.le_trans Hd7.out.size hbx.size))
      have hz9 : w3.heap.size ≤ (wx.setCell ⟨G, a, none⟩ (.int .i64 (v + q))).heap.size := by rw [setCell_size]; exact Nat.le_trans Hz7.out hbx.size
      have Ho9 := Lib.hid ho9
      have Hd9 := Lib.hid hd9
      have Hz9 := Lib.hid hz9
      clear ho9 hd9 hz9
      clear hon ho8 hbx p1 px p0 p2 p3
      go_wp2
      go_roundw
      case rel => exact ⟨k + 1, _, by omega, by go_num, Hbn3.out, HS2.out, Ho9.out, Hd9.out, keep_of_below Hd9.out, Hz9.out⟩
      case measure => simp [intOf]; omega
    · obtain rfl : k = m := by omega
      have HS1 : Hid (l = R) := Lib.hid (by have := HS.out; rwa [drop_end (l := rs) (by rw [Hm.out]; exact Nat.le_refl _), ptFold] at this)
      go_wp2
      go_ret
      rw [← HS1.out]
      exact ⟨some ⟨G, 0, none⟩, n, by rw [Hbn.out.len]; rfl, Ho.out.wide hGw hz, Hd.out⟩

end Go.Proofs.Ytehlijpjcjegcaa
