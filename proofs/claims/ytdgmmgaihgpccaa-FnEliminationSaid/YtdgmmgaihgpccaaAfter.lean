/- Contracts: the wins after given results (program and reference). -/
import Derived.Test.YtdgmmgaihgpccaaRacer
import Derived.Test.YtdgmmgaihgpccaaClone
import Derived.Test.YtdgmmgaihgpccaaPast
import Derived.StillTailTactics
import Derived.BigRegion
namespace Go.Proofs.Ytdgmmgaihgpccaa
open Go.RowKit

def resOk (r : List Int) (z : Int) : Bool := decide (r.length = 2) && (inR (r.getD 0 0) 0 z && (inR (r.getD 1 0) 0 z && decide (r.getD 0 0 + r.getD 1 0 = z)))
def addAt (out : List Int) (k : Nat) (v : Int) : List Int := out.set k (out.getD k 0 + v)
theorem addAt_len (out : List Int) (k : Nat) (v : Int) : (addAt out k v).length = out.length := by simp [addAt]
def afterFrom : List Int → List (List Int) → List (List Int) → List Int
  | out, [], _ => out
  | out, _ :: _, [] => out
  | out, g :: L, r :: rs => if resOk r (g.getD 2 0) = true then afterFrom (addAt (addAt out (g.getD 0 0).toNat (r.getD 0 0)) (g.getD 1 0).toNat (r.getD 1 0)) L rs else []
def afterF (wins : List Int) (left results : List (List Int)) : List Int := if raceOk wins left = true ∧ results.length = left.length then afterFrom wins left results else []
theorem two_of {g : List Int} (h : g.length = 2) : ∃ x y, g = [x, y] := by
  match g, h with
  | [x, y], _ => exact ⟨x, y, rfl⟩
theorem ints2 {w : World} {a : Option Addr} {x y : Int} (h : Ints w a [x, y]) :
    ∃ ad, a = some ad ∧ w.cell? ad = some (.int .i64 x) ∧ w.cell? ⟨ad.block, ad.off + 1, none⟩ = some (.int .i64 y) := by
  obtain ⟨ad, rfl, h0⟩ := h 0 x rfl
  obtain ⟨ad1, e1, h1⟩ := h 1 y rfl
  injection e1 with e1
  subst e1
  rw [Addr.add_zero'] at h0
  exact ⟨_, rfl, h0, by simpa [Addr.add] using h1⟩
theorem ints2_of {w : World} {ad : Addr} {x y : Int} (h0 : w.cell? ad = some (.int .i64 x)) (h1 : w.cell? ⟨ad.block, ad.off + 1, none⟩ = some (.int .i64 y)) : Ints w (some ad) [x, y] := by
  intro k u hk
  match k, hk with
  | 0, hk => simp at hk; subst hk; exact ⟨ad, rfl, by rw [Addr.add_zero']; exact h0⟩
  | 1, hk => simp at hk; subst hk; exact ⟨ad, rfl, by simpa [Addr.add] using h1⟩
theorem addAt_bound {out : List Int} {k : Nat} {v b : Int} (h : ∀ x ∈ out, 0 ≤ x ∧ x ≤ b) (hv : 0 ≤ v) (hv2 : v ≤ 20) (hb : 0 ≤ b) : ∀ x ∈ addAt out k v, 0 ≤ x ∧ x ≤ b + 20 := by
  intro x hx
  rcases List.mem_or_eq_of_mem_set hx with hx | rfl
  · have := h x hx; omega
  · rw [List.getD_eq_getElem?_getD]
    cases hk : out[k]? with
    | none => simp; omega
    | some u => have := h u (List.mem_of_getElem? hk); simp; omega
/-- Both stores of a round. -/
theorem two_adds {T : TypeId} {lo hi g c : Nat} {w : World} {xs : List Int} {a b : Nat} (h : Own T lo hi w (some ⟨g, 0, none⟩) c (xs.map (.int .i64))) (ha : a < xs.length) (hb : b < xs.length) (u v : Int) :
    ∃ x y, w.cell? ⟨g, a, none⟩ = some (.int .i64 x) ∧ w.frozen? ⟨g, a, none⟩ = false ∧ xs.getD a 0 = x ∧ (w.setCell ⟨g, a, none⟩ (.int .i64 (x + u))).cell? ⟨g, b, none⟩ = some (.int .i64 y) ∧ w.frozen? ⟨g, b, none⟩ = false ∧ (addAt xs a u).getD b 0 = y ∧
      Own T lo hi ((w.setCell ⟨g, a, none⟩ (.int .i64 (x + u))).setCell ⟨g, b, none⟩ (.int .i64 (y + v))) (some ⟨g, 0, none⟩) c ((addAt (addAt xs a u) b v).map (.int .i64)) := by
  obtain ⟨x, hx⟩ := some_of ha
  have ex : xs.getD a 0 = x := by simp [hx]
  have e1 : addAt xs a u = xs.set a (x + u) := by rw [addAt, ex]
  obtain ⟨y, hy⟩ := some_of (l := xs.set a (x + u)) (k := b) (by simpa using hb)
  have ey : (xs.set a (x + u)).getD b 0 = y := by simp [hy]
  obtain ⟨y', hy'⟩ := some_of hb
  obtain ⟨g1, e1', _, _, h1, h2⟩ := ownr h hx
  obtain rfl : g = g1 := by injection e1' with e1'; injection e1'
  obtain ⟨g2, e2, _, _, _, h3⟩ := ownr h hy'
  obtain rfl : g = g2 := by injection e2 with e2; injection e2
  obtain ⟨g3, e3, _, _, h4, _⟩ := ownr (h.seti a (x + u)) hy
  obtain rfl : g = g3 := by injection e3 with e3; injection e3
  refine ⟨x, y, h1, h2, ex, h4, h3, by rw [e1, ey], ?_⟩
  rw [show addAt (addAt xs a u) b v = (xs.set a (x + u)).set b (y + v) from by rw [e1, addAt, ey]]
  exact (h.seti a (x + u)).seti b (y + v)

set_option maxRecDepth 100000 in
set_option maxHeartbeats 4000000 in
theorem iAfterGames_c (A B D : Option Addr) (c d f : Nat) (wins : List Int) (left res : List (List Int)) (w : World) (ha : Ints w A wins) (hb : Rows w B left) (hd : Rows w D res) (hm : wins.length ≤ 1048576) (hm2 : left.length ≤ 1048576) (hcap : left.length ≤ d) :
    Calls Try.prog 27 #[.slice A wins.length c, .slice B left.length d, .slice D res.length f] w (GivesI 3 w (afterF wins left res)) := by
  generalize hR : afterF wins left res = R
  have HR := Lib.hid hR
  clear hR
  have Ha := Lib.hid ha
  have Hb := Lib.hid hb
  have Hd := Lib.hid hd
  clear ha hb hd
  cases h1 : raceOk wins left
  · have HS : Hid ([] = R) := Lib.hid (by rw [← HR.out]; simp [afterF, h1])
    have H1 := Lib.hid h1
    clear h1
    go_enter Try.func27, Try.ntmps27
    go_wp2_with fail
    refine (gives_v (iRaceOk_c _ _ _ _ _ _ _ Ha.out Hb.out hm hm2 hcap) (congrArg Value.bool H1.out)).mono ?_
    rintro e w1 ⟨rfl, hb1⟩
    go_wp2
    go_ret
    rw [← HS.out]
    exact ⟨none, 0, rfl, Own.nil .., hb1⟩
  · by_cases h2 : res.length = left.length
    · have hrace := race_of h1
      have HS : Hid (afterFrom wins left res = R) := Lib.hid (by rw [← HR.out]; simp [afterF, h1, h2])
      have h2' : ((res.length : Int) != (left.length : Int)) = false := by simp [h2]
      have H1 := Lib.hid h1
      have Hrace := Lib.hid hrace
      clear h1 hrace
      go_enter Try.func27, Try.ntmps27
      go_wp2_with fail
      refine (gives_v (iRaceOk_c _ _ _ _ _ _ _ Ha.out Hb.out hm hm2 hcap) (congrArg Value.bool H1.out)).mono ?_
      rintro e w1 ⟨rfl, hb1⟩
      have Hb1 := Lib.hid hb1
      have Ha1 := Lib.hid (Ha.out.keep (keep_of_below hb1))
      clear hb1
      go_wp2_with fail
      refine (clone_c _ _ _ _ Ha1.out hm).mono ?_
      rintro e w2 ⟨C, cc, rfl, ho2, hb2⟩
      have Hb2 := Lib.hid (Hb1.out.trans (hb2.mono Hb1.out.size))
      have hz1 : w.heap.size ≤ w1.heap.size := Hb1.out.size
      have hz2 : w1.heap.size ≤ w2.heap.size := hb2.size
      clear hb2
      obtain ⟨g0, rfl⟩ : ∃ g0, C = some ⟨g0, 0, none⟩ := by
        obtain ⟨v, hv⟩ := some_of (l := wins) (k := 0) (by have := Hrace.out.two; omega)
        obtain ⟨g0, e, _⟩ := ownr ho2 hv
        exact ⟨g0, e⟩
      have hg0 : w.heap.size ≤ g0 := by
        obtain ⟨v, hv⟩ := some_of (l := wins) (k := 0) (by have := Hrace.out.two; omega)
        obtain ⟨g1, e, h, _⟩ := ownr ho2 hv
        obtain rfl : g0 = g1 := by injection e with e; injection e
        omega
      have hfew := Hrace.out.games.few
      have Ho2 := Lib.hid ho2
      clear ho2
      go_wp2
      go_loopw [26] (fun i wr => ∃ (j : Nat) (out : List Int), j ≤ left.length ∧ i = .int .i64 j ∧ out.length = wins.length ∧ (∀ x ∈ out, 0 ≤ x ∧ x ≤ 200 + 40 * (j : Int)) ∧ afterFrom out (left.drop j) (res.drop j) = R ∧ Own 3 w1.heap.size w2.heap.size wr (some ⟨g0, 0, none⟩) cc (out.map (.int .i64)) ∧ Below w.heap.size w wr ∧ w2.heap.size ≤ wr.heap.size) (fun i _ => left.length - (intOf i).toNat)
      case atStart => exact ⟨0, wins, Nat.zero_le _, rfl, rfl, fun x hx => by have := Hrace.out.win x hx; omega, HS.out, Ho2.out, Hb2.out, Nat.le_refl _⟩
      case round =>
        obtain ⟨j, out, hj, rfl, hlo, hbd, hS, ho, hdn, hzr⟩ := hrel
        have HS := Lib.hid hS
        have Ho := Lib.hid ho
        have Hdn := Lib.hid hdn
        have Hbd := Lib.hid hbd
        have Hlo := Lib.hid hlo
        clear hS ho hdn hbd hlo
        by_cases hlt : j < left.length
        · obtain ⟨g, hx⟩ := some_of hlt
          obtain ⟨bd, b', c', rfl, _, _, hcaw, hia⟩ := Hb.out j g hx
          obtain ⟨x, y, z, rfl, hxy, hyn, hz1', hz2'⟩ := Hrace.out.games.at_ hx
          obtain ⟨ad, rfl, g0w, g1w, g2w⟩ := ints3 hia
          have hca : wr.cell? (bd.add j) = some (.slice (some ad) 3 c') := keep_of_below Hdn.out _ _ hcaw
          have g2' := keep_of_below Hdn.out _ _ g2w
          have G0 := Lib.hid g0w
          have G1 := Lib.hid g1w
          clear hcaw g0w g1w g2w
          obtain ⟨r, hr⟩ := some_of (l := res) (k := j) (by omega)
          obtain ⟨be, b2, c2, rfl, _, _, hcrw, hir⟩ := Hd.out j r hr
          have hcr : wr.cell? (be.add j) = some (.slice b2 r.length c2) := keep_of_below Hdn.out _ _ hcrw
          clear hcrw
          have HS1 : Hid ((if resOk r z = true then afterFrom (addAt (addAt out x (r.getD 0 0)) y (r.getD 1 0)) (left.drop (j + 1)) (res.drop (j + 1)) else []) = R) := Lib.hid (by have := HS.out; rw [drop_of hx, drop_of hr, afterFrom] at this; exact this)
          clear hia
          have Hx := Lib.hid hx
          have Hr := Lib.hid hr
          have Hir := Lib.hid hir
          clear hx hr hir
          by_cases hl2 : r.length = 2
          · obtain ⟨p, q, rfl⟩ := two_of hl2
            obtain ⟨ae, rfl, r0w, r1w⟩ := ints2 Hir.out
            have r0 := keep_of_below Hdn.out _ _ r0w
            have r1 := keep_of_below Hdn.out _ _ r1w
            have E0 := Lib.hid r0w
            have E1 := Lib.hid r1w
            clear r0w r1w
            have hcr' : wr.cell? (be.add j) = some (.slice (some ae) 2 c2) := hcr
            clear hcr
            have hlpq : ([p, q] : List Int).length ≤ 1048576 := by simp
            have hal : ([p, q] : List Int).all (fun v => inR v 0 z) = (inR p 0 z && inR q 0 z) := by simp
            have c0 : ∀ x : Past wr, x.now.cell? ae = some (.int .i64 p) := Past.cell r0
            have c1 : ∀ x : Past wr, x.now.cell? ⟨ae.block, ae.off + 1, none⟩ = some (.int .i64 q) := Past.cell r1
            have c2' : ∀ x : Past wr, x.now.cell? ⟨ad.block, ad.off + 2, none⟩ = some (.int .i64 (z : Int)) := Past.cell g2'
            cases hall : (inR p 0 z && inR q 0 z)
            · have HS2 : Hid ([] = R) := Lib.hid (by
                have := HS1.out
                rw [if_neg] at this
                · exact this
                · rw [Bool.and_eq_false_iff] at hall
                  rcases hall with h | h <;> simp [resOk, h])
              have Hal := Lib.hid (hal.trans hall)
              clear hal
              have Hall := Lib.hid hall
              clear hall
              go_wp2
              refine wp_region_past (by kernel_rfl) (by kernel_rfl) ?_
              repeat (go_big_quiet_step ((go_at_call 45; exact past_gives (gives_v (allWithin_c (some ae) c2 [p, q] 0 (z : Int) _ ((Hir.out.keep (keep_of_below Hdn.out)).keep (Past.keep _)) hlpq) (congrArg Value.bool Hal.out)))))
              refine wpQuiet_nil ?_
              intro wx hwx
              obtain ⟨⟨wy, hbx⟩, hw⟩ := hwx
              change wx = wy at hw
              subst hw
              go_wp2
              go_ret
              rw [← HS2.out]
              exact ⟨none, 0, rfl, Own.nil .., Hdn.out.trans (hbx.mono Hdn.out.size)⟩
            · obtain ⟨p1, p2⟩ : (0 ≤ p ∧ p ≤ z) := by rw [Bool.and_eq_true] at hall; exact inR_true hall.1
              obtain ⟨q1, q2⟩ : (0 ≤ q ∧ q ≤ z) := by rw [Bool.and_eq_true] at hall; exact inR_true hall.2
              have wpq : IntKind.i64.wrap (p + q) = p + q := IntWalk.i64_in _ (by omega)
              have Hal := Lib.hid (hal.trans hall)
              clear hal
              by_cases hsum : p + q = z
              · have hs' : ((p + q) != (z : Int)) = false := by simpa using hsum
                have HS2 : Hid (afterFrom (addAt (addAt out x p) y q) (left.drop (j + 1)) (res.drop (j + 1)) = R) := Lib.hid (by
                  have := HS1.out
                  rw [if_pos] at this
                  · exact this
                  · rw [Bool.and_eq_true] at hall
                    simp [resOk, hall.1, hall.2, hsum])
                have hbd2 : ∀ v ∈ addAt (addAt out x p) y q, 0 ≤ v ∧ v ≤ 200 + 40 * ((j + 1 : Nat) : Int) := fun v hv => by
                  have := addAt_bound (addAt_bound (k := x) (v := p) Hbd.out p1 (by omega) (by omega)) (k := y) (v := q) q1 (by omega) (by omega) v hv
                  omega
                have hxo : x < out.length := by rw [Hlo.out]; omega
                have hyo : y < out.length := by rw [Hlo.out]; omega
                have Hall := Lib.hid hall
                have Hsum := Lib.hid hsum
                have Hbd2 := Lib.hid hbd2
                clear hall hsum hbd2
                go_wp2
                refine wp_region_past (by kernel_rfl) (by kernel_rfl) ?_
                repeat (go_big_quiet_step ((go_at_call 45; exact past_gives (gives_v (allWithin_c (some ae) c2 [p, q] 0 (z : Int) _ ((Hir.out.keep (keep_of_below Hdn.out)).keep (Past.keep _)) hlpq) (congrArg Value.bool Hal.out)))))
                refine wpQuiet_nil ?_
                intro wx hwx
                obtain ⟨⟨wy, hbx⟩, hw⟩ := hwx
                change wx = wy at hw
                subst hw
                clear c0 c1 c2' g2' r0 r1 hca hcr'
                have Hwx := Lib.hid (Hdn.out.trans (hbx.mono Hdn.out.size))
                have how : Own 3 w1.heap.size w2.heap.size wx (some ⟨g0, 0, none⟩) cc (out.map (.int .i64)) := Ho.out.below (hbx.mono hzr)
                have hzx : w2.heap.size ≤ wx.heap.size := Nat.le_trans hzr hbx.size
                obtain ⟨u, v, k1, k2, k3, k4, k5, k6, ho2⟩ := two_adds how hxo hyo p q
                have hu := Hbd.out u (by rw [← k3, List.getD_eq_getElem?_getD, List.getElem?_eq_getElem hxo]; exact List.getElem_mem hxo)
                have hyo2 : y < (addAt out x p).length := by rw [addAt_len]; exact hyo
                have hv := (addAt_bound (k := x) (v := p) Hbd.out p1 (by omega) (by omega)) v (by rw [← k6, List.getD_eq_getElem?_getD, List.getElem?_eq_getElem hyo2]; exact List.getElem_mem hyo2)
                have wu : IntKind.i64.wrap (u + p) = u + p := IntWalk.i64_in _ (by omega)
                have wv : IntKind.i64.wrap (v + q) = v + q := IntWalk.i64_in _ (by omega)
                have e0 := keep_of_below Hwx.out _ _ G0.out
                have e2 := keep_of_below Hwx.out _ _ E0.out
                have hbs := Hwx.out.setCell (p := ⟨g0, x, none⟩) hg0 (.int .i64 (u + p))
                have hbs2 := hbs.setCell (p := ⟨g0, y, none⟩) hg0 (.int .i64 (v + q))
                have Hbs3 := Lib.hid hbs2.drew.drew
                have hzs : w2.heap.size ≤ ((wx.setCell ⟨g0, x, none⟩ (.int .i64 (u + p))).setCell ⟨g0, y, none⟩ (.int .i64 (v + q))).heap.size := by rw [setCell_size, setCell_size]; exact hzx
                have e1 := keep_of_below hbs _ _ G1.out
                have e3 := keep_of_below hbs _ _ E1.out
                have K3 := Lib.hid k3
                have K6 := Lib.hid k6
                have Ho2 := Lib.hid ho2
                have Hbs2 := Lib.hid hbs2
                have How := Lib.hid how
                clear k3 k6 ho2 hbs2 how
                clear hu hv hbx hbs
                have hxw : (x : Int) < (wins.length : Int) := by omega
                have hyw : (y : Int) < (wins.length : Int) := by omega
                go_wp2
                have k5' : (wx.setCell ⟨g0, x, none⟩ (.int .i64 (u + p))).drew.frozen? ⟨g0, y, none⟩ = false := by simpa using k5
                have k4' : (wx.setCell ⟨g0, x, none⟩ (.int .i64 (u + p))).drew.cell? ⟨g0, y, none⟩ = some (.int .i64 v) := k4
                have e1' : (wx.setCell ⟨g0, x, none⟩ (.int .i64 (u + p))).drew.cell? ⟨ad.block, ad.off + 1, none⟩ = some (.int .i64 (y : Int)) := e1
                have e3' : (wx.setCell ⟨g0, x, none⟩ (.int .i64 (u + p))).drew.cell? ⟨ae.block, ae.off + 1, none⟩ = some (.int .i64 q) := e3
                have Ho3 : Hid (Own 3 w1.heap.size w2.heap.size (((wx.setCell ⟨g0, x, none⟩ (.int .i64 (u + p))).drew.setCell ⟨g0, y, none⟩ (.int .i64 (v + q))).drew) (some ⟨g0, 0, none⟩) cc ((addAt (addAt out x p) y q).map (.int .i64))) := Lib.hid Ho2.out
                have Hbs4 : Hid (Below w.heap.size w (((wx.setCell ⟨g0, x, none⟩ (.int .i64 (u + p))).drew.setCell ⟨g0, y, none⟩ (.int .i64 (v + q))).drew)) := Lib.hid Hbs3.out
                have hzs' : w2.heap.size ≤ (((wx.setCell ⟨g0, x, none⟩ (.int .i64 (u + p))).drew.setCell ⟨g0, y, none⟩ (.int .i64 (v + q))).drew).heap.size := hzs
                clear k4 e1 e3 k5 Ho2 Hbs3 hzs
                go_still_tail 11, (by kernel_rfl)
                go_wp2
                generalize (wx.setCell ⟨g0, x, none⟩ (.int .i64 (u + p))).drew = W1 at e1' e3' k4' k5' Ho3 Hbs4 hzs' ⊢
                go_still_tail 11, (by kernel_rfl)
                go_wp2
                go_roundw
                case rel => exact ⟨j + 1, addAt (addAt out x p) y q, by omega, by go_num, by rw [addAt_len, addAt_len]; exact Hlo.out, Hbd2.out, HS2.out, Ho3.out, Hbs4.out, hzs'⟩
                case measure => simp [intOf]; omega
              · have hs' : ((p + q) != (z : Int)) = true := by simpa using hsum
                have HS2 : Hid ([] = R) := Lib.hid (by
                  have := HS1.out
                  rw [if_neg] at this
                  · exact this
                  · simp [resOk, hsum])
                have Hall := Lib.hid hall
                have Hsum := Lib.hid hsum
                clear hall hsum
                go_wp2
                refine wp_region_past (by kernel_rfl) (by kernel_rfl) ?_
                repeat (go_big_quiet_step ((go_at_call 45; exact past_gives (gives_v (allWithin_c (some ae) c2 [p, q] 0 (z : Int) _ ((Hir.out.keep (keep_of_below Hdn.out)).keep (Past.keep _)) hlpq) (congrArg Value.bool Hal.out)))))
                refine wpQuiet_nil ?_
                intro wx hwx
                obtain ⟨⟨wy, hbx⟩, hw⟩ := hwx
                change wx = wy at hw
                subst hw
                go_wp2
                go_ret
                rw [← HS2.out]
                exact ⟨none, 0, rfl, Own.nil .., Hdn.out.trans (hbx.mono Hdn.out.size)⟩
          · have hl2' : ((r.length : Int) != 2) = true := by simp; omega
            have HS2 : Hid ([] = R) := Lib.hid (by
              have := HS1.out
              rw [if_neg] at this
              · exact this
              · simp [resOk, hl2])
            have Hl2 := Lib.hid hl2
            clear hl2
            go_wp2
            go_quiet (fail)
            go_wp2
            go_ret
            rw [← HS2.out]
            exact ⟨none, 0, rfl, Own.nil .., Hdn.out.trans (below_drewN _ _ _)⟩
        · obtain rfl : j = left.length := by omega
          have HS1 : Hid (out = R) := Lib.hid (by have := HS.out; rwa [List.drop_length, afterFrom] at this)
          go_wp2
          go_ret
          rw [← HS1.out]
          exact ⟨some ⟨g0, 0, none⟩, cc, by rw [Hlo.out]; rfl, Ho.out.wide hz1 hzr, Hdn.out⟩
    · have HS : Hid ([] = R) := Lib.hid (by rw [← HR.out]; simp [afterF, h2])
      have h2' : ((res.length : Int) != (left.length : Int)) = true := by simp; omega
      have H1 := Lib.hid h1
      have H2 := Lib.hid h2
      clear h1 h2
      go_enter Try.func27, Try.ntmps27
      go_wp2_with fail
      refine (gives_v (iRaceOk_c _ _ _ _ _ _ _ Ha.out Hb.out hm hm2 hcap) (congrArg Value.bool H1.out)).mono ?_
      rintro e w1 ⟨rfl, hb1⟩
      go_wp2
      go_ret
      rw [← HS.out]
      exact ⟨none, 0, rfl, Own.nil .., hb1⟩

set_option maxRecDepth 100000 in
set_option maxHeartbeats 4000000 in
theorem sAfterGames_c (A B D : Option Addr) (c d f : Nat) (wins : List Int) (left res : List (List Int)) (w : World) (ha : Ints w A wins) (hb : Rows w B left) (hd : Rows w D res) (hm : wins.length ≤ 1048576) (hm2 : left.length ≤ 1048576) (hcap : left.length ≤ d) :
    Calls Try.prog 26 #[.slice A wins.length c, .slice B left.length d, .slice D res.length f] w (GivesI 3 w (afterF wins left res)) := by
  generalize hR : afterF wins left res = R
  have HR := Lib.hid hR
  clear hR
  have Ha := Lib.hid ha
  have Hb := Lib.hid hb
  have Hd := Lib.hid hd
  clear ha hb hd
  cases h1 : raceOk wins left
  · have HS : Hid ([] = R) := Lib.hid (by rw [← HR.out]; simp [afterF, h1])
    have H1 := Lib.hid h1
    clear h1
    go_enter Try.func26, Try.ntmps26
    go_wp2_with fail
    refine (calls_v (sRaceOk_c _ _ _ _ _ _ _ Ha.out Hb.out hm hm2 hcap) (congrArg Value.bool H1.out)).mono ?_
    rintro e w1 ⟨rfl, hb1⟩
    go_wp2
    go_ret
    rw [← HS.out]
    exact ⟨none, 0, rfl, Own.nil .., hb1.below _⟩
  · by_cases h2 : res.length = left.length
    · have hrace := race_of h1
      have HS : Hid (afterFrom wins left res = R) := Lib.hid (by rw [← HR.out]; simp [afterF, h1, h2])
      have h2' : ((res.length : Int) != (left.length : Int)) = false := by simp [h2]
      obtain ⟨ad0, rfl⟩ : ∃ ad, A = some ad := by
        obtain ⟨v, hv⟩ := some_of (l := wins) (k := 0) (by have := hrace.two; omega)
        obtain ⟨ad, e, _⟩ := Ha.out 0 v hv
        exact ⟨ad, e⟩
      have H1 := Lib.hid h1
      have Hrace := Lib.hid hrace
      clear h1 hrace
      go_enter Try.func26, Try.ntmps26
      go_wp2_with fail
      refine (calls_v (sRaceOk_c _ _ _ _ _ _ _ Ha.out Hb.out hm hm2 hcap) (congrArg Value.bool H1.out)).mono ?_
      rintro e w1 ⟨rfl, hq1⟩
      have Hb1 := Lib.hid (hq1.below w.heap.size)
      have Ha1 := Lib.hid (Ha.out.keep hq1.keep)
      clear hq1
      go_wp2_with (at_builtin; refine wpList_appN rfl (.tmp 22) (.tmp 23) 22 rfl 3 (.int .i64 0) 8 Try.underlying22 info_int rfl w1.heap.size (some ⟨w1.heap.size, 0, none⟩) 0 [] ?_ ?_ (some ad0) c (wins.map (.int .i64)) ?_ ?_ ?_ ?_ ?_ 0 wins.length ?_ ?_ ?_ ?_ ?_; exact ⟨by simp, by unfold maxLen; omega, .inr ⟨w1.heap.size, #[], rfl, Nat.le_refl _, by simp, heap_alloc_new w1 _, rfl, rfl⟩⟩; simp; exact (Ha1.out.keep (keep_of_below ((Below.refl _ _).alloc (Nat.le_refl _) _))).cells; exact ints_oneCell .i64 wins; decide; (simp; omega); decide; rfl; simp; rfl; rfl; intro C cc w2 ho' hb' _ hz')
      rw [List.nil_append] at ho'
      have hb2 : Below w1.heap.size w1 w2 := ((Below.refl _ _).alloc (Nat.le_refl _) _).trans hb'
      have Hb2 := Lib.hid (Hb1.out.trans (hb2.mono Hb1.out.size))
      have hz1 : w.heap.size ≤ w1.heap.size := Hb1.out.size
      have hz2 : w1.heap.size ≤ w2.heap.size := hb2.size
      clear hb2 hb' hz'
      obtain ⟨g0, rfl⟩ : ∃ g0, C = some ⟨g0, 0, none⟩ := by
        obtain ⟨v, hv⟩ := some_of (l := wins) (k := 0) (by have := Hrace.out.two; omega)
        obtain ⟨g0, e, _⟩ := ownr ho' hv
        exact ⟨g0, e⟩
      have hg0 : w.heap.size ≤ g0 := by
        obtain ⟨v, hv⟩ := some_of (l := wins) (k := 0) (by have := Hrace.out.two; omega)
        obtain ⟨g1, e, h, _⟩ := ownr ho' hv
        obtain rfl : g0 = g1 := by injection e with e; injection e
        omega
      have hfew := Hrace.out.games.few
      have Ho' := Lib.hid ho'
      clear ho'
      go_wp2
      go_loopw [27] (fun i wr => ∃ (j : Nat) (out : List Int), j ≤ left.length ∧ i = .int .i64 j ∧ out.length = wins.length ∧ (∀ x ∈ out, 0 ≤ x ∧ x ≤ 200 + 40 * (j : Int)) ∧ afterFrom out (left.drop j) (res.drop j) = R ∧ Own 3 w1.heap.size w2.heap.size wr (some ⟨g0, 0, none⟩) cc (out.map (.int .i64)) ∧ Below w.heap.size w wr ∧ w2.heap.size ≤ wr.heap.size) (fun i _ => left.length - (intOf i).toNat)
      case atStart => exact ⟨0, wins, Nat.zero_le _, rfl, rfl, fun x hx => by have := Hrace.out.win x hx; omega, HS.out, Ho'.out, Hb2.out, Nat.le_refl _⟩
      case round =>
        obtain ⟨j, out, hj, rfl, hlo, hbd, hS, ho, hdn, hzr⟩ := hrel
        have HS := Lib.hid hS
        have Ho := Lib.hid ho
        have Hdn := Lib.hid hdn
        have Hbd := Lib.hid hbd
        have Hlo := Lib.hid hlo
        clear hS ho hdn hbd hlo
        by_cases hlt : j < left.length
        · obtain ⟨g, hx⟩ := some_of hlt
          obtain ⟨bd, b', c', rfl, _, _, hcaw, hia⟩ := Hb.out j g hx
          obtain ⟨x, y, z, rfl, hxy, hyn, hz1', hz2'⟩ := Hrace.out.games.at_ hx
          obtain ⟨ad, rfl, g0w, g1w, g2w⟩ := ints3 hia
          have hca : wr.cell? (bd.add j) = some (.slice (some ad) 3 c') := keep_of_below Hdn.out _ _ hcaw
          have g2' := keep_of_below Hdn.out _ _ g2w
          have G0 := Lib.hid g0w
          have G1 := Lib.hid g1w
          clear hcaw g0w g1w g2w
          obtain ⟨r, hr⟩ := some_of (l := res) (k := j) (by omega)
          obtain ⟨be, b2, c2, rfl, _, _, hcrw, hir⟩ := Hd.out j r hr
          have hcr : wr.cell? (be.add j) = some (.slice b2 r.length c2) := keep_of_below Hdn.out _ _ hcrw
          clear hcrw
          have HS1 : Hid ((if resOk r z = true then afterFrom (addAt (addAt out x (r.getD 0 0)) y (r.getD 1 0)) (left.drop (j + 1)) (res.drop (j + 1)) else []) = R) := Lib.hid (by have := HS.out; rw [drop_of hx, drop_of hr, afterFrom] at this; exact this)
          clear hia
          have Hx := Lib.hid hx
          have Hr := Lib.hid hr
          have Hir := Lib.hid hir
          clear hx hr hir
          by_cases hl2 : r.length = 2
          · obtain ⟨p, q, rfl⟩ := two_of hl2
            obtain ⟨ae, rfl, r0w, r1w⟩ := ints2 Hir.out
            have r0 := keep_of_below Hdn.out _ _ r0w
            have r1 := keep_of_below Hdn.out _ _ r1w
            have E0 := Lib.hid r0w
            have E1 := Lib.hid r1w
            clear r0w r1w
            have hcr' : wr.cell? (be.add j) = some (.slice (some ae) 2 c2) := hcr
            clear hcr
            cases hp : inR p 0 z
            · have HS2 : Hid ([] = R) := Lib.hid (by
                have := HS1.out
                rw [if_neg] at this
                · exact this
                · simp [resOk, hp])
              have Hp := Lib.hid hp
              clear hp
              go_wp2
              go_quiet ((go_at_call 43; exact quiet_call (calls_v (l01In_c _ _ _ _) (congrArg Value.bool Hp.out))))
              go_wp2
              go_ret
              rw [← HS2.out]
              exact ⟨none, 0, rfl, Own.nil .., Hdn.out.trans (below_drewN _ _ _)⟩
            · cases hq : inR q 0 z
              · have HS2 : Hid ([] = R) := Lib.hid (by
                  have := HS1.out
                  rw [if_neg] at this
                  · exact this
                  · simp [resOk, hq])
                have Hp := Lib.hid hp
                have Hq := Lib.hid hq
                clear hp hq
                go_wp2
                go_quiet ((first | (go_at_call 43; exact quiet_call (calls_v (l01In_c _ _ _ _) (congrArg Value.bool Hp.out))) | (go_at_call 43; exact quiet_call (calls_v (l01In_c _ _ _ _) (congrArg Value.bool Hq.out)))))
                go_wp2
                go_ret
                rw [← HS2.out]
                exact ⟨none, 0, rfl, Own.nil .., Hdn.out.trans (below_drewN _ _ _)⟩
              · obtain ⟨p1, p2⟩ := inR_true hp
                obtain ⟨q1, q2⟩ := inR_true hq
                have wpq : IntKind.i64.wrap (p + q) = p + q := IntWalk.i64_in _ (by omega)
                by_cases hsum : p + q = z
                · have hs' : ((p + q) != (z : Int)) = false := by simpa using hsum
                  have HS2 : Hid (afterFrom (addAt (addAt out x p) y q) (left.drop (j + 1)) (res.drop (j + 1)) = R) := Lib.hid (by
                    have := HS1.out
                    rw [if_pos] at this
                    · exact this
                    · simp [resOk, hp, hq, hsum])
                  have hbd2 : ∀ v ∈ addAt (addAt out x p) y q, 0 ≤ v ∧ v ≤ 200 + 40 * ((j + 1 : Nat) : Int) := fun v hv => by
                    have := addAt_bound (addAt_bound (k := x) (v := p) Hbd.out p1 (by omega) (by omega)) (k := y) (v := q) q1 (by omega) (by omega) v hv
                    omega
                  have hxo : x < out.length := by rw [Hlo.out]; omega
                  have hyo : y < out.length := by rw [Hlo.out]; omega
                  have Hp := Lib.hid hp
                  have Hq := Lib.hid hq
                  have Hsum := Lib.hid hsum
                  have Hbd2 := Lib.hid hbd2
                  clear hp hq hsum hbd2
                  go_wp2
                  go_quiet ((first | (go_at_call 43; exact quiet_call (calls_v (l01In_c _ _ _ _) (congrArg Value.bool Hp.out))) | (go_at_call 43; exact quiet_call (calls_v (l01In_c _ _ _ _) (congrArg Value.bool Hq.out)))))
                  obtain ⟨wx, hwx⟩ : ∃ wx, wr.drewN nq = wx := ⟨_, rfl⟩
                  have hbx : Below wr.heap.size wr wx := by rw [← hwx]; exact below_drewN _ _ _
                  rw [hwx]
                  clear hwx
                  clear g2' r0 r1 hca hcr'
                  have Hwx := Lib.hid (Hdn.out.trans (hbx.mono Hdn.out.size))
                  have how : Own 3 w1.heap.size w2.heap.size wx (some ⟨g0, 0, none⟩) cc (out.map (.int .i64)) := Ho.out.below (hbx.mono hzr)
                  have hzx : w2.heap.size ≤ wx.heap.size := Nat.le_trans hzr hbx.size
                  obtain ⟨u, v, k1, k2, k3, k4, k5, k6, ho2⟩ := two_adds how hxo hyo p q
                  have hu := Hbd.out u (by rw [← k3, List.getD_eq_getElem?_getD, List.getElem?_eq_getElem hxo]; exact List.getElem_mem hxo)
                  have hyo2 : y < (addAt out x p).length := by rw [addAt_len]; exact hyo
                  have hv := (addAt_bound (k := x) (v := p) Hbd.out p1 (by omega) (by omega)) v (by rw [← k6, List.getD_eq_getElem?_getD, List.getElem?_eq_getElem hyo2]; exact List.getElem_mem hyo2)
                  have wu : IntKind.i64.wrap (u + p) = u + p := IntWalk.i64_in _ (by omega)
                  have wv : IntKind.i64.wrap (v + q) = v + q := IntWalk.i64_in _ (by omega)
                  have e0 := keep_of_below Hwx.out _ _ G0.out
                  have e2 := keep_of_below Hwx.out _ _ E0.out
                  have hbs := Hwx.out.setCell (p := ⟨g0, x, none⟩) hg0 (.int .i64 (u + p))
                  have hbs2 := hbs.setCell (p := ⟨g0, y, none⟩) hg0 (.int .i64 (v + q))
                  have hzs : w2.heap.size ≤ ((wx.setCell ⟨g0, x, none⟩ (.int .i64 (u + p))).setCell ⟨g0, y, none⟩ (.int .i64 (v + q))).heap.size := by rw [setCell_size, setCell_size]; exact hzx
                  have e1 := keep_of_below hbs _ _ G1.out
                  have e3 := keep_of_below hbs _ _ E1.out
                  have k5' : (wx.setCell ⟨g0, x, none⟩ (.int .i64 (u + p))).drew.frozen? ⟨g0, y, none⟩ = false := by simpa using k5
                  have k4' : (wx.setCell ⟨g0, x, none⟩ (.int .i64 (u + p))).drew.cell? ⟨g0, y, none⟩ = some (.int .i64 v) := k4
                  have e1' : (wx.setCell ⟨g0, x, none⟩ (.int .i64 (u + p))).drew.cell? ⟨ad.block, ad.off + 1, none⟩ = some (.int .i64 (y : Int)) := e1
                  have e3' : (wx.setCell ⟨g0, x, none⟩ (.int .i64 (u + p))).drew.cell? ⟨ae.block, ae.off + 1, none⟩ = some (.int .i64 q) := e3
                  have Ho3 : Hid (Own 3 w1.heap.size w2.heap.size (((wx.setCell ⟨g0, x, none⟩ (.int .i64 (u + p))).drew.setCell ⟨g0, y, none⟩ (.int .i64 (v + q))).drew) (some ⟨g0, 0, none⟩) cc ((addAt (addAt out x p) y q).map (.int .i64))) := Lib.hid ho2
                  have Hbs4 : Hid (Below w.heap.size w (((wx.setCell ⟨g0, x, none⟩ (.int .i64 (u + p))).drew.setCell ⟨g0, y, none⟩ (.int .i64 (v + q))).drew)) := Lib.hid hbs2.drew.drew
                  have hzs' : w2.heap.size ≤ (((wx.setCell ⟨g0, x, none⟩ (.int .i64 (u + p))).drew.setCell ⟨g0, y, none⟩ (.int .i64 (v + q))).drew).heap.size := hzs
                  have K3 := Lib.hid k3
                  have K6 := Lib.hid k6
                  clear k3 k6
                  clear hu hv hbx hbs hbs2 how ho2 k4 e1 e3 k5 hzs
                  have hxw : (x : Int) < (wins.length : Int) := by omega
                  have hyw : (y : Int) < (wins.length : Int) := by omega
                  go_wp2
                  go_still_tail 15, (by kernel_rfl)
                  go_wp2
                  generalize (wx.setCell ⟨g0, x, none⟩ (.int .i64 (u + p))).drew = W1 at e1' e3' k4' k5' Ho3 Hbs4 hzs' ⊢
                  go_still_tail 15, (by kernel_rfl)
                  go_wp2
                  go_roundw
                  case rel => exact ⟨j + 1, addAt (addAt out x p) y q, by omega, by go_num, by rw [addAt_len, addAt_len]; exact Hlo.out, Hbd2.out, HS2.out, Ho3.out, Hbs4.out, hzs'⟩
                  case measure => simp [intOf]; omega
                · have hs' : ((p + q) != (z : Int)) = true := by simpa using hsum
                  have HS2 : Hid ([] = R) := Lib.hid (by
                    have := HS1.out
                    rw [if_neg] at this
                    · exact this
                    · simp [resOk, hsum])
                  have Hp := Lib.hid hp
                  have Hq := Lib.hid hq
                  have Hsum := Lib.hid hsum
                  clear hp hq hsum
                  go_wp2
                  go_quiet ((first | (go_at_call 43; exact quiet_call (calls_v (l01In_c _ _ _ _) (congrArg Value.bool Hp.out))) | (go_at_call 43; exact quiet_call (calls_v (l01In_c _ _ _ _) (congrArg Value.bool Hq.out)))))
                  go_wp2
                  go_ret
                  rw [← HS2.out]
                  exact ⟨none, 0, rfl, Own.nil .., Hdn.out.trans (below_drewN _ _ _)⟩
          · have hl2' : ((r.length : Int) != 2) = true := by simp; omega
            have HS2 : Hid ([] = R) := Lib.hid (by
              have := HS1.out
              rw [if_neg] at this
              · exact this
              · simp [resOk, hl2])
            have Hl2 := Lib.hid hl2
            clear hl2
            go_wp2
            go_quiet (fail)
            go_wp2
            go_ret
            rw [← HS2.out]
            exact ⟨none, 0, rfl, Own.nil .., Hdn.out.trans (below_drewN _ _ _)⟩
        · obtain rfl : j = left.length := by omega
          have HS1 : Hid (out = R) := Lib.hid (by have := HS.out; rwa [List.drop_length, afterFrom] at this)
          go_wp2
          go_ret
          rw [← HS1.out]
          exact ⟨some ⟨g0, 0, none⟩, cc, by rw [Hlo.out]; rfl, Ho.out.wide hz1 hzr, Hdn.out⟩
    · have HS : Hid ([] = R) := Lib.hid (by rw [← HR.out]; simp [afterF, h2])
      have h2' : ((res.length : Int) != (left.length : Int)) = true := by simp; omega
      have H1 := Lib.hid h1
      have H2 := Lib.hid h2
      clear h1 h2
      go_enter Try.func26, Try.ntmps26
      go_wp2_with fail
      refine (calls_v (sRaceOk_c _ _ _ _ _ _ _ Ha.out Hb.out hm hm2 hcap) (congrArg Value.bool H1.out)).mono ?_
      rintro e w1 ⟨rfl, hb1⟩
      go_wp2
      go_ret
      rw [← HS.out]
      exact ⟨none, 0, rfl, Own.nil .., hb1.below _⟩
end Go.Proofs.Ytdgmmgaihgpccaa
