/- Contract: results that leave a club first, if there are any (reference). -/
import Derived.Test.YtdgmmgaihgpccaaAfterS
import Derived.Test.YtdgmmgaihgpccaaOut
import Derived.Test.YtdgmmgaihgpccaaOpen
import Derived.Test.YtdgmmgaihgpccaaBase3
import Derived.Test.YtdgmmgaihgpccaaChanceI
import Derived.StillTailTactics
namespace Go.Proofs.Ytdgmmgaihgpccaa
set_option linter.unusedSimpArgs false
set_option linter.unusedVariables false
open Go.RowKit


set_option maxRecDepth 100000 in
set_option maxHeartbeats 4000000 in
theorem sChanceFor_c (A B : Option Addr) (c d : Nat) (wins : List Int) (left : List (List Int)) (k : Int) (w : World) (ha : Ints w A wins) (hb : Rows w B left) (hm : wins.length ≤ 1048576) (hm2 : left.length ≤ 1048576) (hcap : left.length ≤ d) (hd : d ≤ maxLen) :
    Calls Try.prog 37 #[.slice A wins.length c, .slice B left.length d, .int .i64 k] w (GivesIIb 3 22 w (chanceF wins left k) (canF wins left k)) := by
  have Ha := Lib.hid ha
  have Hb := Lib.hid hb
  clear ha hb
  cases h1 : racer wins left k
  · have e1 : canF wins left k = false := by simp [canF, h1]
    have e2 : chanceF wins left k = [] := by simp [chanceF, e1]
    rw [e1, e2]
    clear e1 e2
    have H1 := Lib.hid h1
    clear h1
    go_enter Try.func37, Try.ntmps37
    go_wp2_with fail
    refine (gives_v (l14Ok_c _ _ _ _ _ _ _ _ Ha.out Hb.out hm hm2 hcap) (congrArg Value.bool H1.out)).mono ?_
    rintro e w1 ⟨rfl, hb1⟩
    go_wp2
    go_ret2
    exact ⟨none, 0, rfl, Own2.nil .., hb1⟩
  · have hrace := racer_race h1
    obtain ⟨club, rfl, hkc⟩ := racer_club h1
    obtain ⟨best, hbest⟩ : ∃ best, wins.getD club 0 + leftOf (club : Int) 0 left = best := ⟨_, rfl⟩
    obtain ⟨pf, hpf⟩ : ∃ pf, proofAt wins left club best = pf := ⟨_, rfl⟩
    have hob : outB wins left club = decide (0 < pf) := by simp only [outB, proofF, h1, if_true, Int.toNat_natCast, hbest, hpf]
    obtain ⟨v0, hv0⟩ := some_of hkc
    have e0 : wins.getD club 0 = v0 := by rw [List.getD_eq_getElem?_getD, hv0]; rfl
    obtain ⟨v1, v2⟩ := hrace.win v0 (List.mem_of_getElem? hv0)
    obtain ⟨l1, l2⟩ := leftOf_bound (n := wins.length) (club : Int) left 0 hrace.games.game
    have hfew := hrace.games.few
    have htwo := hrace.two
    have hsix := hrace.six
    have hpc := fun W hA hB => l14Proof_c A B c d wins left club W hA hB hsix (win_big hrace) hrace.games hkc
    rw [hbest, hpf] at hpc
    by_cases hp0 : 0 < pf
    · have e1 : canF wins left club = false := by simp [canF, h1, hob, hp0]
      have e2 : chanceF wins left club = [] := by simp [chanceF, e1]
      rw [e1, e2]
      have hpi : (0 : Int) < (pf : Int) := by omega
      clear e1 e2 e0 hpf hob hv0 hbest
      have H1 := Lib.hid h1
      have Hpc := Lib.hid hpc
      have Hrace := Lib.hid hrace
      clear h1 hpc hrace
      go_enter Try.func37, Try.ntmps37
      go_wp2_with fail
      refine (gives_v (l14Ok_c _ _ _ _ _ _ _ _ Ha.out Hb.out hm hm2 hcap) (congrArg Value.bool H1.out)).mono ?_
      rintro e w1 ⟨rfl, hb1⟩
      have hpc1 := Hpc.out w1 (Ha.out.keep (keep_of_below hb1)) (Hb.out.keep (keep_of_below hb1))
      have Hb1 := Lib.hid hb1
      have Hpc1 := Lib.hid hpc1
      clear hpc1
      clear hb1 Hpc
      go_wp2_with fail
      refine (Hpc1.out).mono ?_
      rintro e w2 ⟨rfl, hq2⟩
      go_wp2
      go_ret2
      exact ⟨none, 0, rfl, Own2.nil .., Hb1.out.trans (hq2.below _)⟩
    · have e1 : canF wins left club = true := by simp [canF, h1, hob, hp0]
      have e2 : chanceF wins left club = chanceFrom club best wins left := by rw [chanceF, if_pos e1, Int.toNat_natCast, hbest]
      have hP : proofAt wins left club best = 0 := by omega
      rw [e1, e2]
      have hpi : ¬ (0 : Int) < (pf : Int) := by omega
      have wv : IntKind.i64.wrap (v0 + leftOf (club : Int) 0 left) = best := by
        rw [e0] at hbest; rw [hbest]; exact IntWalk.i64_in _ (by omega)
      have hbest2 : 0 ≤ best ∧ best ≤ 500 := by rw [e0] at hbest; omega
      obtain ⟨hbest0, hbest1⟩ := hbest2
      obtain ⟨R, hR⟩ : ∃ R, chanceFrom club best wins left = R := ⟨_, rfl⟩
      rw [hR]
      have hbb : ∃ bb : Addr, left = [] ∨ B = some bb := by
        cases left with
        | nil => exact ⟨⟨0, 0, none⟩, .inl rfl⟩
        | cons g r => obtain ⟨ad, _, _, e, _⟩ := Hb.out 0 g rfl; exact ⟨ad, .inr e⟩
      clear e1 e2 hbest l1 l2 v1 v2 e0 hob hpf hp0
      have H1 := Lib.hid h1
      have Hrace := Lib.hid hrace
      have HP := Lib.hid hP
      have HR := Lib.hid hR
      have Hpc := Lib.hid hpc
      clear h1 hrace hP hR hpc
      go_enter Try.func37, Try.ntmps37
      go_wp2_with fail
      refine (gives_v (l14Ok_c _ _ _ _ _ _ _ _ Ha.out Hb.out hm hm2 hcap) (congrArg Value.bool H1.out)).mono ?_
      rintro e w1 ⟨rfl, hb1⟩
      have hpc1 := Hpc.out w1 (Ha.out.keep (keep_of_below hb1)) (Hb.out.keep (keep_of_below hb1))
      have Hb1 := Lib.hid hb1
      have Hpc1 := Lib.hid hpc1
      clear hpc1
      clear hb1 Hpc
      go_wp2_with fail
      refine (Hpc1.out).mono ?_
      rintro e w2 ⟨rfl, hq2⟩
      have Hb2 := Lib.hid (Hb1.out.trans (hq2.below w.heap.size))
      have Ha2 := Lib.hid (Ha.out.keep (keep_of_below Hb2.out))
      have Hr2 := Lib.hid (Hb.out.keep (keep_of_below Hb2.out))
      clear hq2 Hb1 Hpc1
      obtain ⟨aa, rfl, hca0⟩ := Ha2.out club v0 hv0
      have hkci : (club : Int) < (wins.length : Int) := by omega
      clear hv0
      go_wp2
      go_quiet ((go_at_call 49; exact quiet_call (l14Left_c _ _ _ _ _ (Hr2.out.keep (Keep.drewN _ _)) Hrace.out.games)))
      have Hb3 := Lib.hid (Hb2.out.trans (below_drewN w.heap.size w2 nq))
      have Ha3 := Lib.hid (Ha2.out.keep (Keep.drewN _ nq))
      clear hca0
      generalize w2.drewN nq = w3 at Hb3 Ha3 ⊢
      have hsz3 := Hb3.out.size
      go_wp2_with (at_builtin; refine wpList_appN rfl (.tmp 37) (.tmp 38) 22 rfl 3 (.int .i64 0) 8 Try.underlying22 info_int rfl w3.heap.size (some ⟨w3.heap.size, 0, none⟩) 0 [] ?_ ?_ (some aa) c (wins.map (.int .i64)) ?_ ?_ ?_ ?_ ?_ 0 wins.length ?_ ?_ ?_ ?_ ?_; exact out_empty 3 w3.heap.size w3 (Nat.le_refl _); simp; exact (Ha3.out.keep (keep_of_below ((Below.refl _ _).alloc (Nat.le_refl _) _))).cells; exact ints_oneCell .i64 wins; decide; (simp; omega); decide; rfl; simp; rfl; rfl; intro C cc w4 ho4 hb4 _ hz4)
      rw [List.nil_append] at ho4
      have hb4' : Below w3.heap.size w3 w4 := ((Below.refl _ _).alloc (Nat.le_refl _) _).trans hb4
      have Hb4 := Lib.hid (Hb3.out.trans (hb4'.mono Hb3.out.size))
      have Ho4 := Lib.hid (ho4.wide hsz3 (Nat.le_refl _))
      obtain ⟨gn, rfl, hgn, hgn2⟩ := own_at0 Ho4.out (by omega)
      have Hoe := Lib.hid (out_empty 22 w.heap.size w4 Hb4.out.size)
      have Hb5 := Lib.hid (Hb4.out.alloc Hb4.out.size (.cells #[] 22))
      have Ho5 := Lib.hid ((Ho4.out.below ((Below.refl _ w4).alloc (Nat.le_refl _) (.cells #[] 22))).wide (Nat.le_refl _) (by simp : w4.heap.size ≤ (w4.alloc (.cells #[] 22)).heap.size))
      clear ho4 hb4 hb4' hz4 hgn hgn2
      go_wp2
      go_loopw [43, 9, 10] (fun i no o wr => ∃ (j gn cn c1 : Nat) (A1 : Option Addr) (now : List Int) (ol : List (List Int)), j ≤ left.length ∧ i = .int .i64 j ∧ no = .slice (some ⟨gn, 0, none⟩) wins.length cn ∧ o = .slice A1 j c1 ∧ now.length = wins.length ∧ ol.length = j ∧ (∀ x ∈ now, 0 ≤ x ∧ x ≤ 200 + 40 * (j : Int)) ∧ proofAt now (left.drop j) club best = 0 ∧ ol ++ chanceFrom club best now (left.drop j) = R ∧ Own 3 w.heap.size wr.heap.size wr (some ⟨gn, 0, none⟩) cn (now.map (.int .i64)) ∧ Own2 3 22 w.heap.size wr.heap.size wr A1 c1 ol ∧ Below w.heap.size w wr) (fun i _ _ _ => left.length - (intOf i).toNat)
      case atStart => exact ⟨0, gn, cc, 0, _, wins, [], Nat.zero_le _, rfl, rfl, rfl, rfl, rfl, fun x hx => by have := Hrace.out.win x hx; omega, HP.out, HR.out, Ho5.out, ⟨[], Hoe.out, Inner.nil ..⟩, Hb5.out⟩
      case round =>
        clear HP HR Hb2 Hb3 Hb4 Hb5 Ha2 Ha3 Hr2 Ho4 Ho5 Hoe
        obtain ⟨j, gn, cn, c1, A1, now, ol, hj, rfl, rfl, rfl, hlo, hol, hbd, hP, hS, hno, hoo, hdn⟩ := hrel
        have HS := Lib.hid hS
        have HP := Lib.hid hP
        have Hlo := Lib.hid hlo
        have Hol := Lib.hid hol
        have Hbd := Lib.hid hbd
        have Hno := Lib.hid hno
        have Hoo := Lib.hid hoo
        have Hdn := Lib.hid hdn
        clear hS hP hlo hol hbd hno hoo hdn
        by_cases hlt : j < left.length
        · obtain ⟨bb, hbb | rfl⟩ := hbb
          · rw [hbb] at hlt; simp at hlt
          · obtain ⟨g, hx⟩ := some_of hlt
            obtain ⟨bd, b', c2, e1, _, _, hcw, hia⟩ := Hb.out j g hx
            obtain rfl : bb = bd := by injection e1
            obtain ⟨a, b, z, rfl, hab, hbn, hz1, hz2⟩ := Hrace.out.games.at_ hx
            obtain ⟨ad, rfl, h0w, h1w, h2w⟩ := ints3 hia
            have hca : wr.cell? (bb.add j) = some (.slice (some ad) 3 c2) := keep_of_below Hdn.out _ _ hcw
            have h0 := keep_of_below Hdn.out _ _ h0w
            have h1 := keep_of_below Hdn.out _ _ h1w
            have h2 := keep_of_below Hdn.out _ _ h2w
            have hP0 := HP.out
            rw [drop_of hx] at hP0
            have hlo : now.length = wins.length := Hlo.out
            obtain ⟨F, hpk, hcf⟩ := chance_step (Hrace.out.games.drop (j + 1)).game (by omega) (by omega) hab hP0
            have HS1 : Hid (ol ++ ([(F : Int), (z : Int) - (F : Int)] :: chanceFrom club best (nextOf now a b z F) (left.drop (j + 1))) = R) := Lib.hid (by have := HS.out; rwa [drop_of hx, hcf] at this)
            have HS2 : Hid ((ol ++ [[(F : Int), (z : Int) - (F : Int)]]) ++ chanceFrom club best (nextOf now a b z F) (left.drop (j + 1)) = R) := Lib.hid (by have := HS1.out; simpa using this)
            have hFz := hpk.le
            have hjl : j < 15 := by omega
            have HB2 : Hid (∀ f, f ≤ z → ∀ x ∈ nextOf now a b z f, 0 ≤ x ∧ x ≤ 200 + 40 * ((j + 1 : Nat) : Int)) := Lib.hid (fun f hf x hx => by have := next_bound (a := a) (b := b) Hbd.out hf hz2 (by omega) x hx; omega)
            have wj : IntKind.i64.wrap ((j : Int) + 1) = (j : Int) + 1 := IntWalk.i64_in _ (by omega)
            have hji : (j : Int) < (left.length : Int) := by omega
            have hbl : (b : Int) < (wins.length : Int) := by omega
            have hal : (a : Int) < (wins.length : Int) := by omega
            have Hc0 := Lib.hid h0w
            have Hc1 := Lib.hid h1w
            have Hc2 := Lib.hid h2w
            clear hcw h0w h1w h2w e1 hcf hia hP0
            have Hpk := Lib.hid hpk
            have Hx := Lib.hid hx
            clear hpk hx
            have hsw := Hdn.out.size
            by_cases hac : a = club
            · have e1 : ((a : Int) == (club : Int)) = true := by simp [hac]
              have e2 : ((b : Int) == (club : Int)) = false := by simp; omega
              have hall : ∀ f, z ≤ f → f ≤ z → allowed club a b z f = true := fun f h1 h2 => by simp [allowed, hac]; omega
              have hlF : z ≤ F := by
                rcases Nat.lt_or_ge F z with h | h
                · have := Hpk.out.ok; simp [allowed, hac, h] at this
                · exact h
              have hFh : F ≤ z := hFz
              have hhz : z ≤ z := Nat.le_refl _
              have Hac := Lib.hid hac
              have Hall := Lib.hid hall
              clear hac hall
              go_wp2
              obtain ⟨w6, hw6⟩ : ∃ w6 : World, w6 = wr := ⟨_, rfl⟩
              rw [← hw6] at Hdn Hno Hoo hsw h0 h1 h2 ⊢
              clear hca hw6 wr e1 e2
              go_loopw [15, 9, 10] (fun i no o wx => ∃ (f : Nat), z ≤ f ∧ f ≤ F ∧ i = .int .i64 (f : Int) ∧ no = .slice (some ⟨gn, 0, none⟩) wins.length cn ∧ o = .slice A1 j c1 ∧ Below w6.heap.size w6 wx) (fun i _ _ _ => F - (intOf i).toNat)
              case atStart => exact ⟨z, Nat.le_refl _, hlF, by go_num, rfl, rfl, Below.refl _ _⟩
              case round =>
                have Hg0 := Lib.hid h0
                have Hg1 := Lib.hid h1
                have Hg2 := Lib.hid h2
                clear h0 h1 h2
                obtain ⟨f, hf0, hf, rfl, rfl, rfl, hd7⟩ := hrel
                have Hd7 := Lib.hid hd7
                clear hd7
                have hfz2 : f ≤ z := by omega
                have Hall2 := Lib.hid (Hall.out f hf0 (by omega))
                obtain ⟨y, hy⟩ : ∃ y : Int, (f : Int) = y := ⟨_, rfl⟩
                rw [hy]
                have hfh : y ≤ z := by omega
                have hy0 : 0 ≤ y := by omega
                have hyz : y ≤ (z : Int) := by omega
                have wf : IntKind.i64.wrap (y + 1) = y + 1 := IntWalk.i64_in _ (by omega)
                have HS3 : Hid (f = F → (ol ++ [[y, (z : Int) - y]]) ++ chanceFrom club best (nextOf now a b z f) (left.drop (j + 1)) = R) := Lib.hid (fun e => by have := HS2.out; rw [← e, hy] at this; exact this)
                have Hsrc := Lib.hid ((((Hno.out.below Hd7.out).ints).keep (keep_of_below ((Below.refl wr.heap.size wr).alloc (Nat.le_refl _) (.cells #[] 3)))).cells)
                go_wp2_with (at_builtin; refine wpList_appN rfl (.tmp 70) (.tmp 71) 22 rfl 3 (.int .i64 0) 8 Try.underlying22 info_int rfl wr.heap.size (some ⟨wr.heap.size, 0, none⟩) 0 [] ?_ ?_ (some ⟨gn, 0, none⟩) cn (now.map (.int .i64)) ?_ ?_ ?_ ?_ ?_ 0 wins.length ?_ ?_ ?_ ?_ ?_; exact out_empty 3 wr.heap.size wr (Nat.le_refl _); simp; exact Hsrc.out; exact ints_oneCell .i64 now; decide; (rw [List.length_map, hlo]; omega); decide; rfl; (rw [List.length_map]; exact hlo.symm); rfl; rfl; intro X cx w8 ho8 hb8' _ hz8)
                rw [List.nil_append] at ho8
                have hb8 : Below wr.heap.size wr w8 := ((Below.refl _ _).alloc (Nat.le_refl _) _).trans hb8'
                obtain ⟨gx, rfl, hgx, hgx2⟩ := own_at0 ho8 (by omega)
                obtain ⟨u, v, k1, k2, k3, k4, k5, k6, ho5⟩ := two_adds ho8 (a := a) (b := b) (by omega) (by omega) y ((z : Int) - y)
                have hu := Hbd.out u (getD_mem' (by omega) k3)
                have hv := (addAt_bound (k := a) (v := y) Hbd.out (by omega) (by omega) (by omega)) v (getD_mem' (by rw [addAt_len]; omega) k6)
                have wu : IntKind.i64.wrap (u + y) = u + y := IntWalk.i64_in _ (by omega)
                have wz : IntKind.i64.wrap ((z : Int) - y) = (z : Int) - y := IntWalk.i64_in _ (by omega)
                have wv1 : IntKind.i64.wrap (v + (z : Int)) = v + (z : Int) := IntWalk.i64_in _ (by omega)
                have wv2 : IntKind.i64.wrap (v + (z : Int) - y) = v + ((z : Int) - y) := by rw [IntWalk.i64_in _ (by omega)]; omega
                have Hkw8 := Lib.hid (Hd7.out.trans (hb8.mono Hd7.out.size))
                have q0 : w8.cell? ad = some (.int .i64 (a : Int)) := keep_of_below Hkw8.out _ _ Hg0.out
                have hbs := hb8.setCell (p := ⟨gx, a, none⟩) hgx (.int .i64 (u + y))
                have hbs2 := hbs.setCell (p := ⟨gx, b, none⟩) hgx (.int .i64 (v + ((z : Int) - y)))
                have hk2 := Hd7.out.trans (hbs.mono Hd7.out.size)
                have q1 : (w8.setCell ⟨gx, a, none⟩ (.int .i64 (u + y))).drew.cell? ⟨ad.block, ad.off + 1, none⟩ = some (.int .i64 (b : Int)) := keep_of_below hk2 _ _ Hg1.out
                have q2 : (w8.setCell ⟨gx, a, none⟩ (.int .i64 (u + y))).drew.cell? ⟨ad.block, ad.off + 2, none⟩ = some (.int .i64 (z : Int)) := keep_of_below hk2 _ _ Hg2.out
                have k5' : (w8.setCell ⟨gx, a, none⟩ (.int .i64 (u + y))).drew.frozen? ⟨gx, b, none⟩ = false := by simpa using k5
                have k4' : (w8.setCell ⟨gx, a, none⟩ (.int .i64 (u + y))).drew.cell? ⟨gx, b, none⟩ = some (.int .i64 v) := k4
                obtain ⟨w9, hw9⟩ : ∃ w9, ((w8.setCell ⟨gx, a, none⟩ (.int .i64 (u + y))).drew.setCell ⟨gx, b, none⟩ (.int .i64 (v + ((z : Int) - y)))).drew = w9 := ⟨_, rfl⟩
                have ho6 : Own 3 wr.heap.size w8.heap.size w9 (some ⟨gx, 0, none⟩) cx ((nextOf now a b z f).map (.int .i64)) := by rw [← hw9, nextOf, hy]; exact ho5
                have hb9 : Below wr.heap.size wr w9 := by rw [← hw9]; exact hbs2.drew.drew
                have hz9 : w8.heap.size = w9.heap.size := by rw [← hw9]; show w8.heap.size = ((w8.setCell ⟨gx, a, none⟩ (.int .i64 (u + y))).setCell ⟨gx, b, none⟩ (.int .i64 (v + ((z : Int) - y)))).heap.size; rw [setCell_size, setCell_size]
                rw [hz9] at ho6
                have Hb9 := Lib.hid (Hd7.out.trans (hb9.mono Hd7.out.size))
                have Hdb9 := Lib.hid (Hdn.out.trans (Hb9.out.mono Hdn.out.size))
                have hwr9 : w6.heap.size ≤ wr.heap.size := Hd7.out.size
                have hnl : (nextOf now a b z f).length = wins.length := by rw [nextOf_len]; exact hlo
                obtain ⟨pv, hpv⟩ : ∃ pv, proofAt (nextOf now a b z f) (left.drop (j + 1)) club best = pv := ⟨_, rfl⟩
                have hca := l14After_c (some ⟨gx, 0, none⟩) bb cx d (j + 1) (nextOf now a b z f) left club best w9 ho6.ints (Hb.out.keep (keep_of_below Hdb9.out)) (by rw [hnl]; exact hsix) (fun x hx => by have := HB2.out f hfz2 x hx; omega) (by rw [hnl]; exact Hrace.out.games) (by rw [hnl]; exact hkc) hbest0 (by omega) (by omega) hcap hd
                rw [hnl, hpv] at hca
                have q3 : w9.cell? ⟨ad.block, ad.off + 2, none⟩ = some (.int .i64 (z : Int)) := keep_of_below Hb9.out _ _ Hg2.out
                have HQ3 := Lib.hid q3
                have Ho6 := Lib.hid ho6
                have Hpv := Lib.hid hpv
                have Hnl := Lib.hid hnl
                have Hca := Lib.hid hca
                have Hw9 := Lib.hid hw9
                have Hy := Lib.hid hy
                clear ho6 hpv hnl hca hw9 hy
                clear ho5 hb9 hb8 hb8' hz8 k3 k6 hu hv k4 k5 hbs hbs2 hk2 q3 ho8
                go_wp2
                go_still_tail 13, (by kernel_rfl)
                go_wp2
                clear k1 k2 q0
                generalize (w8.setCell ⟨gx, a, none⟩ (.int .i64 (u + y))).drew = W1 at q1 q2 k4' k5' Hw9 ⊢
                go_still_tail 17, (by kernel_rfl)
                go_wp2_with fail
                rw [Hw9.out]
                clear q1 q2 k4' k5' Hw9
                refine Hca.out.mono ?_
                rintro e w10 ⟨rfl, hb10⟩
                have hsz10 := hb10.size
                have Hb10 := Lib.hid (Hb9.out.trans (hb10.mono Hb9.out.size))
                have Hdb10 := Lib.hid (Hdn.out.trans (Hb10.out.mono Hdn.out.size))
                by_cases hp0 : pv = 0
                · have hp0' : (decide (pv = 0)) = true := by simp [hp0]
                  rw [hp0']
                  obtain rfl : f = F := Hpk.out.last hf Hall2.out (by rw [Hpv.out]; exact hp0)
                  have r3 : w10.cell? ⟨ad.block, ad.off + 2, none⟩ = some (.int .i64 (z : Int)) := keep_of_below hb10 _ _ HQ3.out
                  have Ho10 := Lib.hid ((Ho6.out.below hb10).wide (by omega : w.heap.size ≤ wr.heap.size) hsz10)
                  have Hol10 := Lib.hid ((Hoo.out.below Hb10.out))
                  clear hb10 Hca hp0'
                  have Hp0 := Lib.hid hp0
                  clear hp0
                  have hsz6 : w6.heap.size ≤ w10.heap.size := Hb10.out.size
                  have hfi : Hid (proofAt (nextOf now a b z f) (left.drop (j + 1)) club best = 0) := Lib.hid Hpk.out.fits
                  have hrow := own_new2 3 w10 (.int .i64 y) (.int .i64 ((z : Int) - y))
                  have hbw : Below w10.heap.size w10 (w10.alloc (.cells #[.int .i64 y, .int .i64 ((z : Int) - y)] 3)) := (Below.refl _ _).alloc (Nat.le_refl _) _
                  have hez : (w10.alloc (.cells #[.int .i64 y, .int .i64 ((z : Int) - y)] 3)).heap.size = w10.heap.size + 1 := by simp
                  have Hol11 := Lib.hid ((Hol10.out.below (hbw.mono hsz6)))
                  have Hn11 := Lib.hid (Ho10.out.below hbw)
                  have Hdb11 := Lib.hid (Hdb10.out.trans (hbw.mono Hdb10.out.size))
                  clear hbw
                  have Hrow := Lib.hid hrow
                  clear hrow
                  go_wp2_with (at_builtin; refine wpList_app2g rfl (.tmp 110) (.tmp 118) 23 rfl 3 22 Try.underlying23 info_ints info_rows_ne w.heap.size w10.heap.size A1 c1 ol (some ⟨w10.heap.size, 0, none⟩) 2 [y, (z : Int) - y] ?_ ?_ ?_ ?_ ?_ j 2 ?_ ?_ ?_ ?_ ?_; exact Hol11.out.wide (Nat.le_refl _) hsz6; (rw [hez]; exact Hrow.out); exact Nat.le_trans hsw hsz6; (rw [hez]; exact Nat.le_succ _); (rw [Hol.out]; omega); exact Hol.out.symm; rfl; rfl; exact congrArg (fun n => Value.slice (some ⟨n, 0, none⟩) 1 1) hez.symm; intro A2 c3 w12 ho12 hb12 hz12 hst12)
                  have hz11 : w10.heap.size ≤ w12.heap.size := by rw [hez] at hz12; omega
                  have HN12 := Lib.hid ((hst12 _ _ _ _ _ _ info_rows_ne (by rw [hez]; exact Nat.le_succ _) Hn11.out).wide (Nat.le_refl _) hz11)
                  have Hdb12 := Lib.hid (Hdb11.out.trans hb12)
                  have Ho12 := Lib.hid ho12
                  clear ho12
                  clear hst12 hb12 hz12
                  go_wp2
                  go_roundw
                  case rel => exact ⟨j + 1, gx, cx, c3, A2, nextOf now a b z f, ol ++ [[y, (z : Int) - y]], by omega, by go_num, rfl, rfl, Hnl.out, by rw [List.length_append, Hol.out]; rfl, HB2.out f hfz2, hfi.out, HS3.out trivial, HN12.out, Ho12.out, Hdb12.out⟩
                  case measure => simp [intOf]; omega
                · have hp0' : (decide (pv = 0)) = false := by simp [hp0]
                  rw [hp0']
                  have hne := Hpk.out.more hf (by rw [Hpv.out]; exact hp0)
                  have Hp0 := Lib.hid hp0
                  clear hp0
                  clear hb10 hp0'
                  go_wp2
                  go_roundw
                  case rel => exact ⟨f + 1, by omega, hne, by have := Hy.out; congr 1; omega, rfl, rfl, Hb10.out⟩
                  case measure => simp [intOf]; have := Hy.out; omega
            · have e1 : ((a : Int) == (club : Int)) = false := by simp; omega
              by_cases hbc : b = club
              · have e2 : ((b : Int) == (club : Int)) = true := by simp [hbc]
                have hall : ∀ f, 0 ≤ f → f ≤ 0 → allowed club a b z f = true := fun f h1 h2 => by simp [allowed, hac]; omega
                have hlF : 0 ≤ F := Nat.zero_le _
                have hFh : F ≤ 0 := by
                  rcases Nat.lt_or_ge 0 F with h | h
                  · have := Hpk.out.ok; simp [allowed, hac, hbc] at this; omega
                  · exact h
                have hhz : 0 ≤ z := Nat.zero_le _
                have Hac := Lib.hid hac
                have Hall := Lib.hid hall
                have Hbc := Lib.hid hbc
                clear hac hall hbc
                go_wp2
                obtain ⟨w6, hw6⟩ : ∃ w6 : World, w6 = wr := ⟨_, rfl⟩
                rw [← hw6] at Hdn Hno Hoo hsw h0 h1 h2 ⊢
                clear hca hw6 wr e1 e2
                go_loopw [15, 9, 10] (fun i no o wx => ∃ (f : Nat), 0 ≤ f ∧ f ≤ F ∧ i = .int .i64 (f : Int) ∧ no = .slice (some ⟨gn, 0, none⟩) wins.length cn ∧ o = .slice A1 j c1 ∧ Below w6.heap.size w6 wx) (fun i _ _ _ => F - (intOf i).toNat)
                case atStart => exact ⟨0, Nat.le_refl _, hlF, by go_num, rfl, rfl, Below.refl _ _⟩
                case round =>
                  have Hg0 := Lib.hid h0
                  have Hg1 := Lib.hid h1
                  have Hg2 := Lib.hid h2
                  clear h0 h1 h2
                  obtain ⟨f, hf0, hf, rfl, rfl, rfl, hd7⟩ := hrel
                  have Hd7 := Lib.hid hd7
                  clear hd7
                  have hfz2 : f ≤ z := by omega
                  have Hall2 := Lib.hid (Hall.out f hf0 (by omega))
                  obtain ⟨y, hy⟩ : ∃ y : Int, (f : Int) = y := ⟨_, rfl⟩
                  rw [hy]
                  have hfh : y ≤ 0 := by omega
                  have hy0 : 0 ≤ y := by omega
                  have hyz : y ≤ (z : Int) := by omega
                  have wf : IntKind.i64.wrap (y + 1) = y + 1 := IntWalk.i64_in _ (by omega)
                  have HS3 : Hid (f = F → (ol ++ [[y, (z : Int) - y]]) ++ chanceFrom club best (nextOf now a b z f) (left.drop (j + 1)) = R) := Lib.hid (fun e => by have := HS2.out; rw [← e, hy] at this; exact this)
                  have Hsrc := Lib.hid ((((Hno.out.below Hd7.out).ints).keep (keep_of_below ((Below.refl wr.heap.size wr).alloc (Nat.le_refl _) (.cells #[] 3)))).cells)
                  go_wp2_with (at_builtin; refine wpList_appN rfl (.tmp 70) (.tmp 71) 22 rfl 3 (.int .i64 0) 8 Try.underlying22 info_int rfl wr.heap.size (some ⟨wr.heap.size, 0, none⟩) 0 [] ?_ ?_ (some ⟨gn, 0, none⟩) cn (now.map (.int .i64)) ?_ ?_ ?_ ?_ ?_ 0 wins.length ?_ ?_ ?_ ?_ ?_; exact out_empty 3 wr.heap.size wr (Nat.le_refl _); simp; exact Hsrc.out; exact ints_oneCell .i64 now; decide; (rw [List.length_map, hlo]; omega); decide; rfl; (rw [List.length_map]; exact hlo.symm); rfl; rfl; intro X cx w8 ho8 hb8' _ hz8)
                  rw [List.nil_append] at ho8
                  have hb8 : Below wr.heap.size wr w8 := ((Below.refl _ _).alloc (Nat.le_refl _) _).trans hb8'
                  obtain ⟨gx, rfl, hgx, hgx2⟩ := own_at0 ho8 (by omega)
                  obtain ⟨u, v, k1, k2, k3, k4, k5, k6, ho5⟩ := two_adds ho8 (a := a) (b := b) (by omega) (by omega) y ((z : Int) - y)
                  have hu := Hbd.out u (getD_mem' (by omega) k3)
                  have hv := (addAt_bound (k := a) (v := y) Hbd.out (by omega) (by omega) (by omega)) v (getD_mem' (by rw [addAt_len]; omega) k6)
                  have wu : IntKind.i64.wrap (u + y) = u + y := IntWalk.i64_in _ (by omega)
                  have wz : IntKind.i64.wrap ((z : Int) - y) = (z : Int) - y := IntWalk.i64_in _ (by omega)
                  have wv1 : IntKind.i64.wrap (v + (z : Int)) = v + (z : Int) := IntWalk.i64_in _ (by omega)
                  have wv2 : IntKind.i64.wrap (v + (z : Int) - y) = v + ((z : Int) - y) := by rw [IntWalk.i64_in _ (by omega)]; omega
                  have Hkw8 := Lib.hid (Hd7.out.trans (hb8.mono Hd7.out.size))
                  have q0 : w8.cell? ad = some (.int .i64 (a : Int)) := keep_of_below Hkw8.out _ _ Hg0.out
                  have hbs := hb8.setCell (p := ⟨gx, a, none⟩) hgx (.int .i64 (u + y))
                  have hbs2 := hbs.setCell (p := ⟨gx, b, none⟩) hgx (.int .i64 (v + ((z : Int) - y)))
                  have hk2 := Hd7.out.trans (hbs.mono Hd7.out.size)
                  have q1 : (w8.setCell ⟨gx, a, none⟩ (.int .i64 (u + y))).drew.cell? ⟨ad.block, ad.off + 1, none⟩ = some (.int .i64 (b : Int)) := keep_of_below hk2 _ _ Hg1.out
                  have q2 : (w8.setCell ⟨gx, a, none⟩ (.int .i64 (u + y))).drew.cell? ⟨ad.block, ad.off + 2, none⟩ = some (.int .i64 (z : Int)) := keep_of_below hk2 _ _ Hg2.out
                  have k5' : (w8.setCell ⟨gx, a, none⟩ (.int .i64 (u + y))).drew.frozen? ⟨gx, b, none⟩ = false := by simpa using k5
                  have k4' : (w8.setCell ⟨gx, a, none⟩ (.int .i64 (u + y))).drew.cell? ⟨gx, b, none⟩ = some (.int .i64 v) := k4
                  obtain ⟨w9, hw9⟩ : ∃ w9, ((w8.setCell ⟨gx, a, none⟩ (.int .i64 (u + y))).drew.setCell ⟨gx, b, none⟩ (.int .i64 (v + ((z : Int) - y)))).drew = w9 := ⟨_, rfl⟩
                  have ho6 : Own 3 wr.heap.size w8.heap.size w9 (some ⟨gx, 0, none⟩) cx ((nextOf now a b z f).map (.int .i64)) := by rw [← hw9, nextOf, hy]; exact ho5
                  have hb9 : Below wr.heap.size wr w9 := by rw [← hw9]; exact hbs2.drew.drew
                  have hz9 : w8.heap.size = w9.heap.size := by rw [← hw9]; show w8.heap.size = ((w8.setCell ⟨gx, a, none⟩ (.int .i64 (u + y))).setCell ⟨gx, b, none⟩ (.int .i64 (v + ((z : Int) - y)))).heap.size; rw [setCell_size, setCell_size]
                  rw [hz9] at ho6
                  have Hb9 := Lib.hid (Hd7.out.trans (hb9.mono Hd7.out.size))
                  have Hdb9 := Lib.hid (Hdn.out.trans (Hb9.out.mono Hdn.out.size))
                  have hwr9 : w6.heap.size ≤ wr.heap.size := Hd7.out.size
                  have hnl : (nextOf now a b z f).length = wins.length := by rw [nextOf_len]; exact hlo
                  obtain ⟨pv, hpv⟩ : ∃ pv, proofAt (nextOf now a b z f) (left.drop (j + 1)) club best = pv := ⟨_, rfl⟩
                  have hca := l14After_c (some ⟨gx, 0, none⟩) bb cx d (j + 1) (nextOf now a b z f) left club best w9 ho6.ints (Hb.out.keep (keep_of_below Hdb9.out)) (by rw [hnl]; exact hsix) (fun x hx => by have := HB2.out f hfz2 x hx; omega) (by rw [hnl]; exact Hrace.out.games) (by rw [hnl]; exact hkc) hbest0 (by omega) (by omega) hcap hd
                  rw [hnl, hpv] at hca
                  have q3 : w9.cell? ⟨ad.block, ad.off + 2, none⟩ = some (.int .i64 (z : Int)) := keep_of_below Hb9.out _ _ Hg2.out
                  have HQ3 := Lib.hid q3
                  have Ho6 := Lib.hid ho6
                  have Hpv := Lib.hid hpv
                  have Hnl := Lib.hid hnl
                  have Hca := Lib.hid hca
                  have Hw9 := Lib.hid hw9
                  have Hy := Lib.hid hy
                  clear ho6 hpv hnl hca hw9 hy
                  clear ho5 hb9 hb8 hb8' hz8 k3 k6 hu hv k4 k5 hbs hbs2 hk2 q3 ho8
                  go_wp2
                  go_still_tail 13, (by kernel_rfl)
                  go_wp2
                  clear k1 k2 q0
                  generalize (w8.setCell ⟨gx, a, none⟩ (.int .i64 (u + y))).drew = W1 at q1 q2 k4' k5' Hw9 ⊢
                  go_still_tail 17, (by kernel_rfl)
                  go_wp2_with fail
                  rw [Hw9.out]
                  clear q1 q2 k4' k5' Hw9
                  refine Hca.out.mono ?_
                  rintro e w10 ⟨rfl, hb10⟩
                  have hsz10 := hb10.size
                  have Hb10 := Lib.hid (Hb9.out.trans (hb10.mono Hb9.out.size))
                  have Hdb10 := Lib.hid (Hdn.out.trans (Hb10.out.mono Hdn.out.size))
                  by_cases hp0 : pv = 0
                  · have hp0' : (decide (pv = 0)) = true := by simp [hp0]
                    rw [hp0']
                    obtain rfl : f = F := Hpk.out.last hf Hall2.out (by rw [Hpv.out]; exact hp0)
                    have r3 : w10.cell? ⟨ad.block, ad.off + 2, none⟩ = some (.int .i64 (z : Int)) := keep_of_below hb10 _ _ HQ3.out
                    have Ho10 := Lib.hid ((Ho6.out.below hb10).wide (by omega : w.heap.size ≤ wr.heap.size) hsz10)
                    have Hol10 := Lib.hid ((Hoo.out.below Hb10.out))
                    clear hb10 Hca hp0'
                    have Hp0 := Lib.hid hp0
                    clear hp0
                    have hsz6 : w6.heap.size ≤ w10.heap.size := Hb10.out.size
                    have hfi : Hid (proofAt (nextOf now a b z f) (left.drop (j + 1)) club best = 0) := Lib.hid Hpk.out.fits
                    have hrow := own_new2 3 w10 (.int .i64 y) (.int .i64 ((z : Int) - y))
                    have hbw : Below w10.heap.size w10 (w10.alloc (.cells #[.int .i64 y, .int .i64 ((z : Int) - y)] 3)) := (Below.refl _ _).alloc (Nat.le_refl _) _
                    have hez : (w10.alloc (.cells #[.int .i64 y, .int .i64 ((z : Int) - y)] 3)).heap.size = w10.heap.size + 1 := by simp
                    have Hol11 := Lib.hid ((Hol10.out.below (hbw.mono hsz6)))
                    have Hn11 := Lib.hid (Ho10.out.below hbw)
                    have Hdb11 := Lib.hid (Hdb10.out.trans (hbw.mono Hdb10.out.size))
                    clear hbw
                    have Hrow := Lib.hid hrow
                    clear hrow
                    go_wp2_with (at_builtin; refine wpList_app2g rfl (.tmp 110) (.tmp 118) 23 rfl 3 22 Try.underlying23 info_ints info_rows_ne w.heap.size w10.heap.size A1 c1 ol (some ⟨w10.heap.size, 0, none⟩) 2 [y, (z : Int) - y] ?_ ?_ ?_ ?_ ?_ j 2 ?_ ?_ ?_ ?_ ?_; exact Hol11.out.wide (Nat.le_refl _) hsz6; (rw [hez]; exact Hrow.out); exact Nat.le_trans hsw hsz6; (rw [hez]; exact Nat.le_succ _); (rw [Hol.out]; omega); exact Hol.out.symm; rfl; rfl; exact congrArg (fun n => Value.slice (some ⟨n, 0, none⟩) 1 1) hez.symm; intro A2 c3 w12 ho12 hb12 hz12 hst12)
                    have hz11 : w10.heap.size ≤ w12.heap.size := by rw [hez] at hz12; omega
                    have HN12 := Lib.hid ((hst12 _ _ _ _ _ _ info_rows_ne (by rw [hez]; exact Nat.le_succ _) Hn11.out).wide (Nat.le_refl _) hz11)
                    have Hdb12 := Lib.hid (Hdb11.out.trans hb12)
                    have Ho12 := Lib.hid ho12
                    clear ho12
                    clear hst12 hb12 hz12
                    go_wp2
                    go_roundw
                    case rel => exact ⟨j + 1, gx, cx, c3, A2, nextOf now a b z f, ol ++ [[y, (z : Int) - y]], by omega, by go_num, rfl, rfl, Hnl.out, by rw [List.length_append, Hol.out]; rfl, HB2.out f hfz2, hfi.out, HS3.out trivial, HN12.out, Ho12.out, Hdb12.out⟩
                    case measure => simp [intOf]; omega
                  · have hp0' : (decide (pv = 0)) = false := by simp [hp0]
                    rw [hp0']
                    have hne := Hpk.out.more hf (by rw [Hpv.out]; exact hp0)
                    have Hp0 := Lib.hid hp0
                    clear hp0
                    clear hb10 hp0'
                    go_wp2
                    go_roundw
                    case rel => exact ⟨f + 1, by omega, hne, by have := Hy.out; congr 1; omega, rfl, rfl, Hb10.out⟩
                    case measure => simp [intOf]; have := Hy.out; omega
              · have e2 : ((b : Int) == (club : Int)) = false := by simp; omega
                have hall : ∀ f, 0 ≤ f → f ≤ z → allowed club a b z f = true := fun f h1 h2 => by simp [allowed, hac, hbc]
                have hlF : 0 ≤ F := Nat.zero_le _
                have hFh : F ≤ z := hFz
                have hhz : z ≤ z := Nat.le_refl _
                have Hac := Lib.hid hac
                have Hall := Lib.hid hall
                have Hbc := Lib.hid hbc
                clear hac hall hbc
                go_wp2
                obtain ⟨w6, hw6⟩ : ∃ w6 : World, w6 = wr := ⟨_, rfl⟩
                rw [← hw6] at Hdn Hno Hoo hsw h0 h1 h2 ⊢
                clear hca hw6 wr e1 e2
                go_loopw [15, 9, 10] (fun i no o wx => ∃ (f : Nat), 0 ≤ f ∧ f ≤ F ∧ i = .int .i64 (f : Int) ∧ no = .slice (some ⟨gn, 0, none⟩) wins.length cn ∧ o = .slice A1 j c1 ∧ Below w6.heap.size w6 wx) (fun i _ _ _ => F - (intOf i).toNat)
                case atStart => exact ⟨0, Nat.le_refl _, hlF, by go_num, rfl, rfl, Below.refl _ _⟩
                case round =>
                  have Hg0 := Lib.hid h0
                  have Hg1 := Lib.hid h1
                  have Hg2 := Lib.hid h2
                  clear h0 h1 h2
                  obtain ⟨f, hf0, hf, rfl, rfl, rfl, hd7⟩ := hrel
                  have Hd7 := Lib.hid hd7
                  clear hd7
                  have hfz2 : f ≤ z := by omega
                  have Hall2 := Lib.hid (Hall.out f hf0 (by omega))
                  obtain ⟨y, hy⟩ : ∃ y : Int, (f : Int) = y := ⟨_, rfl⟩
                  rw [hy]
                  have hfh : y ≤ z := by omega
                  have hy0 : 0 ≤ y := by omega
                  have hyz : y ≤ (z : Int) := by omega
                  have wf : IntKind.i64.wrap (y + 1) = y + 1 := IntWalk.i64_in _ (by omega)
                  have HS3 : Hid (f = F → (ol ++ [[y, (z : Int) - y]]) ++ chanceFrom club best (nextOf now a b z f) (left.drop (j + 1)) = R) := Lib.hid (fun e => by have := HS2.out; rw [← e, hy] at this; exact this)
                  have Hsrc := Lib.hid ((((Hno.out.below Hd7.out).ints).keep (keep_of_below ((Below.refl wr.heap.size wr).alloc (Nat.le_refl _) (.cells #[] 3)))).cells)
                  go_wp2_with (at_builtin; refine wpList_appN rfl (.tmp 70) (.tmp 71) 22 rfl 3 (.int .i64 0) 8 Try.underlying22 info_int rfl wr.heap.size (some ⟨wr.heap.size, 0, none⟩) 0 [] ?_ ?_ (some ⟨gn, 0, none⟩) cn (now.map (.int .i64)) ?_ ?_ ?_ ?_ ?_ 0 wins.length ?_ ?_ ?_ ?_ ?_; exact out_empty 3 wr.heap.size wr (Nat.le_refl _); simp; exact Hsrc.out; exact ints_oneCell .i64 now; decide; (rw [List.length_map, hlo]; omega); decide; rfl; (rw [List.length_map]; exact hlo.symm); rfl; rfl; intro X cx w8 ho8 hb8' _ hz8)
                  rw [List.nil_append] at ho8
                  have hb8 : Below wr.heap.size wr w8 := ((Below.refl _ _).alloc (Nat.le_refl _) _).trans hb8'
                  obtain ⟨gx, rfl, hgx, hgx2⟩ := own_at0 ho8 (by omega)
                  obtain ⟨u, v, k1, k2, k3, k4, k5, k6, ho5⟩ := two_adds ho8 (a := a) (b := b) (by omega) (by omega) y ((z : Int) - y)
                  have hu := Hbd.out u (getD_mem' (by omega) k3)
                  have hv := (addAt_bound (k := a) (v := y) Hbd.out (by omega) (by omega) (by omega)) v (getD_mem' (by rw [addAt_len]; omega) k6)
                  have wu : IntKind.i64.wrap (u + y) = u + y := IntWalk.i64_in _ (by omega)
                  have wz : IntKind.i64.wrap ((z : Int) - y) = (z : Int) - y := IntWalk.i64_in _ (by omega)
                  have wv1 : IntKind.i64.wrap (v + (z : Int)) = v + (z : Int) := IntWalk.i64_in _ (by omega)
                  have wv2 : IntKind.i64.wrap (v + (z : Int) - y) = v + ((z : Int) - y) := by rw [IntWalk.i64_in _ (by omega)]; omega
                  have Hkw8 := Lib.hid (Hd7.out.trans (hb8.mono Hd7.out.size))
                  have q0 : w8.cell? ad = some (.int .i64 (a : Int)) := keep_of_below Hkw8.out _ _ Hg0.out
                  have hbs := hb8.setCell (p := ⟨gx, a, none⟩) hgx (.int .i64 (u + y))
                  have hbs2 := hbs.setCell (p := ⟨gx, b, none⟩) hgx (.int .i64 (v + ((z : Int) - y)))
                  have hk2 := Hd7.out.trans (hbs.mono Hd7.out.size)
                  have q1 : (w8.setCell ⟨gx, a, none⟩ (.int .i64 (u + y))).drew.cell? ⟨ad.block, ad.off + 1, none⟩ = some (.int .i64 (b : Int)) := keep_of_below hk2 _ _ Hg1.out
                  have q2 : (w8.setCell ⟨gx, a, none⟩ (.int .i64 (u + y))).drew.cell? ⟨ad.block, ad.off + 2, none⟩ = some (.int .i64 (z : Int)) := keep_of_below hk2 _ _ Hg2.out
                  have k5' : (w8.setCell ⟨gx, a, none⟩ (.int .i64 (u + y))).drew.frozen? ⟨gx, b, none⟩ = false := by simpa using k5
                  have k4' : (w8.setCell ⟨gx, a, none⟩ (.int .i64 (u + y))).drew.cell? ⟨gx, b, none⟩ = some (.int .i64 v) := k4
                  obtain ⟨w9, hw9⟩ : ∃ w9, ((w8.setCell ⟨gx, a, none⟩ (.int .i64 (u + y))).drew.setCell ⟨gx, b, none⟩ (.int .i64 (v + ((z : Int) - y)))).drew = w9 := ⟨_, rfl⟩
                  have ho6 : Own 3 wr.heap.size w8.heap.size w9 (some ⟨gx, 0, none⟩) cx ((nextOf now a b z f).map (.int .i64)) := by rw [← hw9, nextOf, hy]; exact ho5
                  have hb9 : Below wr.heap.size wr w9 := by rw [← hw9]; exact hbs2.drew.drew
                  have hz9 : w8.heap.size = w9.heap.size := by rw [← hw9]; show w8.heap.size = ((w8.setCell ⟨gx, a, none⟩ (.int .i64 (u + y))).setCell ⟨gx, b, none⟩ (.int .i64 (v + ((z : Int) - y)))).heap.size; rw [setCell_size, setCell_size]
                  rw [hz9] at ho6
                  have Hb9 := Lib.hid (Hd7.out.trans (hb9.mono Hd7.out.size))
                  have Hdb9 := Lib.hid (Hdn.out.trans (Hb9.out.mono Hdn.out.size))
                  have hwr9 : w6.heap.size ≤ wr.heap.size := Hd7.out.size
                  have hnl : (nextOf now a b z f).length = wins.length := by rw [nextOf_len]; exact hlo
                  obtain ⟨pv, hpv⟩ : ∃ pv, proofAt (nextOf now a b z f) (left.drop (j + 1)) club best = pv := ⟨_, rfl⟩
                  have hca := l14After_c (some ⟨gx, 0, none⟩) bb cx d (j + 1) (nextOf now a b z f) left club best w9 ho6.ints (Hb.out.keep (keep_of_below Hdb9.out)) (by rw [hnl]; exact hsix) (fun x hx => by have := HB2.out f hfz2 x hx; omega) (by rw [hnl]; exact Hrace.out.games) (by rw [hnl]; exact hkc) hbest0 (by omega) (by omega) hcap hd
                  rw [hnl, hpv] at hca
                  have q3 : w9.cell? ⟨ad.block, ad.off + 2, none⟩ = some (.int .i64 (z : Int)) := keep_of_below Hb9.out _ _ Hg2.out
                  have HQ3 := Lib.hid q3
                  have Ho6 := Lib.hid ho6
                  have Hpv := Lib.hid hpv
                  have Hnl := Lib.hid hnl
                  have Hca := Lib.hid hca
                  have Hw9 := Lib.hid hw9
                  have Hy := Lib.hid hy
                  clear ho6 hpv hnl hca hw9 hy
                  clear ho5 hb9 hb8 hb8' hz8 k3 k6 hu hv k4 k5 hbs hbs2 hk2 q3 ho8
                  go_wp2
                  go_still_tail 13, (by kernel_rfl)
                  go_wp2
                  clear k1 k2 q0
                  generalize (w8.setCell ⟨gx, a, none⟩ (.int .i64 (u + y))).drew = W1 at q1 q2 k4' k5' Hw9 ⊢
                  go_still_tail 17, (by kernel_rfl)
                  go_wp2_with fail
                  rw [Hw9.out]
                  clear q1 q2 k4' k5' Hw9
                  refine Hca.out.mono ?_
                  rintro e w10 ⟨rfl, hb10⟩
                  have hsz10 := hb10.size
                  have Hb10 := Lib.hid (Hb9.out.trans (hb10.mono Hb9.out.size))
                  have Hdb10 := Lib.hid (Hdn.out.trans (Hb10.out.mono Hdn.out.size))
                  by_cases hp0 : pv = 0
                  · have hp0' : (decide (pv = 0)) = true := by simp [hp0]
                    rw [hp0']
                    obtain rfl : f = F := Hpk.out.last hf Hall2.out (by rw [Hpv.out]; exact hp0)
                    have r3 : w10.cell? ⟨ad.block, ad.off + 2, none⟩ = some (.int .i64 (z : Int)) := keep_of_below hb10 _ _ HQ3.out
                    have Ho10 := Lib.hid ((Ho6.out.below hb10).wide (by omega : w.heap.size ≤ wr.heap.size) hsz10)
                    have Hol10 := Lib.hid ((Hoo.out.below Hb10.out))
                    clear hb10 Hca hp0'
                    have Hp0 := Lib.hid hp0
                    clear hp0
                    have hsz6 : w6.heap.size ≤ w10.heap.size := Hb10.out.size
                    have hfi : Hid (proofAt (nextOf now a b z f) (left.drop (j + 1)) club best = 0) := Lib.hid Hpk.out.fits
                    have hrow := own_new2 3 w10 (.int .i64 y) (.int .i64 ((z : Int) - y))
                    have hbw : Below w10.heap.size w10 (w10.alloc (.cells #[.int .i64 y, .int .i64 ((z : Int) - y)] 3)) := (Below.refl _ _).alloc (Nat.le_refl _) _
                    have hez : (w10.alloc (.cells #[.int .i64 y, .int .i64 ((z : Int) - y)] 3)).heap.size = w10.heap.size + 1 := by simp
                    have Hol11 := Lib.hid ((Hol10.out.below (hbw.mono hsz6)))
                    have Hn11 := Lib.hid (Ho10.out.below hbw)
                    have Hdb11 := Lib.hid (Hdb10.out.trans (hbw.mono Hdb10.out.size))
                    clear hbw
                    have Hrow := Lib.hid hrow
                    clear hrow
                    go_wp2_with (at_builtin; refine wpList_app2g rfl (.tmp 110) (.tmp 118) 23 rfl 3 22 Try.underlying23 info_ints info_rows_ne w.heap.size w10.heap.size A1 c1 ol (some ⟨w10.heap.size, 0, none⟩) 2 [y, (z : Int) - y] ?_ ?_ ?_ ?_ ?_ j 2 ?_ ?_ ?_ ?_ ?_; exact Hol11.out.wide (Nat.le_refl _) hsz6; (rw [hez]; exact Hrow.out); exact Nat.le_trans hsw hsz6; (rw [hez]; exact Nat.le_succ _); (rw [Hol.out]; omega); exact Hol.out.symm; rfl; rfl; exact congrArg (fun n => Value.slice (some ⟨n, 0, none⟩) 1 1) hez.symm; intro A2 c3 w12 ho12 hb12 hz12 hst12)
                    have hz11 : w10.heap.size ≤ w12.heap.size := by rw [hez] at hz12; omega
                    have HN12 := Lib.hid ((hst12 _ _ _ _ _ _ info_rows_ne (by rw [hez]; exact Nat.le_succ _) Hn11.out).wide (Nat.le_refl _) hz11)
                    have Hdb12 := Lib.hid (Hdb11.out.trans hb12)
                    have Ho12 := Lib.hid ho12
                    clear ho12
                    clear hst12 hb12 hz12
                    go_wp2
                    go_roundw
                    case rel => exact ⟨j + 1, gx, cx, c3, A2, nextOf now a b z f, ol ++ [[y, (z : Int) - y]], by omega, by go_num, rfl, rfl, Hnl.out, by rw [List.length_append, Hol.out]; rfl, HB2.out f hfz2, hfi.out, HS3.out trivial, HN12.out, Ho12.out, Hdb12.out⟩
                    case measure => simp [intOf]; omega
                  · have hp0' : (decide (pv = 0)) = false := by simp [hp0]
                    rw [hp0']
                    have hne := Hpk.out.more hf (by rw [Hpv.out]; exact hp0)
                    have Hp0 := Lib.hid hp0
                    clear hp0
                    clear hb10 hp0'
                    go_wp2
                    go_roundw
                    case rel => exact ⟨f + 1, by omega, hne, by have := Hy.out; congr 1; omega, rfl, rfl, Hb10.out⟩
                    case measure => simp [intOf]; have := Hy.out; omega
        · obtain rfl : j = left.length := by omega
          have HS1 : Hid (ol = R) := Lib.hid (by have := HS.out; rwa [List.drop_length, chanceFrom, List.append_nil] at this)
          go_wp2
          go_ret2
          rw [← HS1.out]
          exact ⟨A1, c1, by rw [Hol.out]; rfl, Hoo.out, Hdn.out⟩
end Go.Proofs.Ytdgmmgaihgpccaa

