/- Contract: results that leave a club first, if there are any (program). -/
import Derived.Test.YtdgmmgaihgpccaaAfterS
import Derived.Test.YtdgmmgaihgpccaaOut
import Derived.Test.YtdgmmgaihgpccaaOpen
import Derived.Test.YtdgmmgaihgpccaaBase3
import Derived.Test.YtdgmmgaihgpccaaClone
namespace Go.Proofs.Ytdgmmgaihgpccaa
set_option linter.unusedSimpArgs false
set_option linter.unusedVariables false
open Go.RowKit

def canF (wins : List Int) (left : List (List Int)) (k : Int) : Bool := racer wins left k && !outB wins left k
def chanceF (wins : List Int) (left : List (List Int)) (k : Int) : List (List Int) := if canF wins left k = true then chanceFrom k.toNat (wins.getD k.toNat 0 + leftOf k.toNat 0 left) wins left else []
theorem own_new2 (T : TypeId) (w : World) (x y : Value) : Own T w.heap.size (w.heap.size + 1) (w.alloc (.cells #[x, y] T)) (some ⟨w.heap.size, 0, none⟩) 2 [x, y] :=
  ⟨by simp, by unfold maxLen; omega, .inr ⟨w.heap.size, _, rfl, Nat.le_refl _, Nat.lt_succ_self _, heap_alloc_new w _, rfl, rfl⟩⟩
theorem own_at0 {T : TypeId} {lo hi : Nat} {w : World} {A : Option Addr} {c : Nat} {xs : List Int} (h : Own T lo hi w A c (xs.map (.int .i64))) (hl : 0 < xs.length) : ∃ g, A = some ⟨g, 0, none⟩ ∧ lo ≤ g ∧ g < hi := by
  obtain ⟨v, hv⟩ := some_of hl
  obtain ⟨g0, e, h1, h2, _⟩ := ownr h hv
  exact ⟨g0, e, h1, h2⟩
/-- append of one new row; what lies in blocks of another type stays. -/
theorem wpList_app2g {P : Program} {wr : World} {ops : Array Oper} {rest : List Oper} {o : Oper} {a : Act} {Q : Exit → Act → World → Prop} (hgd : o.guard = none) (s x : Operand) (t : TypeId)
    (ho : o.op = .call { callee := .builtin .append, args := #[s, x], argTypes := #[t, t] }) (T TT : TypeId) (ht : P.underlying t = some (.slice TT))
    (hinfo : (P.info? TT).map (fun i => (i.zero, i.size, i.bytes)) = some (some (.slice none 0 0), 1, 24)) (hT : T ≠ TT) (lo mid : Nat) (B : Option Addr) (d : Nat) (xss : List (List Int)) (b : Option Addr) (c' : Nat) (xs : List Int)
    (h2 : Own2 T TT lo mid wr B d xss) (hr : Own T mid wr.heap.size wr b c' (xs.map (.int .i64))) (hlo : lo ≤ mid) (hmid : mid ≤ wr.heap.size) (hlen : xss.length ≤ 1048576)
    (n m : Nat) (hn : n = xss.length) (hm : m = xs.length) (hs : a.eval s = .slice B n d) (hx : a.eval x = .slice (some ⟨wr.heap.size, 0, none⟩) 1 1)
    (h : ∀ A' c'' w', Own2 T TT lo w'.heap.size w' A' c'' (xss ++ [xs]) → Below lo wr w' → wr.heap.size ≤ w'.heap.size → (∀ (T' : TypeId) (lo2 hi2 : Nat) (A3 : Option Addr) (c3 : Nat) (us : List Value), T' ≠ TT → hi2 ≤ wr.heap.size → Own T' lo2 hi2 wr A3 c3 us → Own T' lo2 hi2 w' A3 c3 us) →
      wpList P ops Q rest (a.put o.dst (.slice A' (n + 1) c'')) w') :
    wpList P ops Q (o :: rest) a (wr.alloc (.cells #[.slice b m c'] TT)) := by
  obtain ⟨hh, hown, hin⟩ := h2
  subst hm
  refine wpList_app1 hgd s x t ho TT (.slice none 0 0) 24 ht hinfo rfl lo B d (List.zipWith hdr hh xss) (hown.wide (Nat.le_refl _) hmid) (by omega) (.slice b xs.length c') rfl (by rw [zip_length hin.len]; exact hlen) (by decide) n (by rw [zip_length hin.len]; exact hn) hs hx ?_
  intro A' c'' w' ho' hb' hg' hz'
  refine h A' c'' w' ⟨hh ++ [(b, c')], by rw [← zip_snoc hin.len]; exact ho', ?_⟩ hb' hz' (fun T' lo2 hi2 A3 c3 us h1 h2 h3 => h3.apart hg' hown h1 h2)
  have hI : Inner T lo wr.heap.size wr (hh ++ [(b, c')]) (xss ++ [xs]) := hin.snoc hr hlo hmid
  exact (hI.grown hg' (hown.wide (Nat.le_refl _) hmid) hT (Nat.le_refl _)).wide (Nat.le_refl _) hz'
theorem Games.drop {n : Nat} {left : List (List Int)} (h : Games n left) (k : Nat) : Games n (left.drop k) := ⟨by have := h.few; rw [List.length_drop]; omega, fun g hg => h.game g (List.mem_of_mem_drop hg)⟩
theorem next_bound {now : List Int} {a b z f : Nat} {B : Int} (h : ∀ x ∈ now, 0 ≤ x ∧ x ≤ B) (hf : f ≤ z) (hz : z ≤ 20) (hB : 0 ≤ B) : ∀ x ∈ nextOf now a b z f, 0 ≤ x ∧ x ≤ B + 40 := fun x hx => by
  have := addAt_bound (addAt_bound (k := a) (v := (f : Int)) h (by omega) (by omega) hB) (k := b) (v := (z : Int) - (f : Int)) (by omega) (by omega) (by omega) x hx
  omega
theorem Pick.last {now : List Int} {L : List (List Int)} {club : Nat} {best : Int} {a b z F f : Nat} (h : Pick now L club best a b z F) (hf : f ≤ F) (ha : allowed club a b z f = true) (hp : proofAt (nextOf now a b z f) L club best = 0) : f = F := by
  rcases Nat.lt_or_ge f F with h1 | h1
  · exact absurd hp (h.min f h1 ha)
  · omega
theorem Pick.skip {now : List Int} {L : List (List Int)} {club : Nat} {best : Int} {a b z F f : Nat} (h : Pick now L club best a b z F) (hf : f ≤ F) (ha : allowed club a b z f = false) : f + 1 ≤ F := by
  rcases Nat.lt_or_ge f F with h1 | h1
  · exact h1
  · have e : f = F := by omega
    rw [e, h.ok] at ha; cases ha
theorem Pick.more {now : List Int} {L : List (List Int)} {club : Nat} {best : Int} {a b z F f : Nat} (h : Pick now L club best a b z F) (hf : f ≤ F) (hp : ¬ proofAt (nextOf now a b z f) L club best = 0) : f + 1 ≤ F := by
  rcases Nat.lt_or_ge f F with h1 | h1
  · exact h1
  · have e : f = F := by omega
    rw [e] at hp; exact absurd h.fits hp

theorem Own.widen_below {T : TypeId} {lo hi : Nat} {w w' : World} {A : Option Addr} {c : Nat} {us : List Value} (h : Own T lo hi w A c us) (k : Below hi w w') (hz : hi ≤ w'.heap.size) : Own T lo w'.heap.size w' A c us := (h.below k).wide (Nat.le_refl _) hz
theorem getD_mem' {xs : List Int} {a : Nat} {x : Int} (h : a < xs.length) (e : xs.getD a 0 = x) : x ∈ xs := by
  rw [← e, List.getD_eq_getElem?_getD, List.getElem?_eq_getElem h]; exact List.getElem_mem h

set_option maxRecDepth 100000 in
set_option maxHeartbeats 4000000 in
theorem iChanceFor_c (A B : Option Addr) (c d : Nat) (wins : List Int) (left : List (List Int)) (k : Int) (w : World) (ha : Ints w A wins) (hb : Rows w B left) (hm : wins.length ≤ 1048576) (hm2 : left.length ≤ 1048576) (hcap : left.length ≤ d) (hd : d ≤ maxLen) :
    Calls Try.prog 38 #[.slice A wins.length c, .slice B left.length d, .int .i64 k] w (GivesIIb 3 22 w (chanceF wins left k) (canF wins left k)) := by
  have Ha := Lib.hid ha
  have Hb := Lib.hid hb
  clear ha hb
  cases h1 : racer wins left k
  · have e1 : canF wins left k = false := by simp [canF, h1]
    have e2 : chanceF wins left k = [] := by simp [chanceF, e1]
    rw [e1, e2]
    clear e1 e2
    have H1 := Lib.hid h1
    clear h1
    go_enter Try.func38, Try.ntmps38
    go_wp2_with fail
    refine (gives_v (isRacer_c _ _ _ _ _ _ _ _ Ha.out Hb.out hm hm2 hcap) (congrArg Value.bool H1.out)).mono ?_
    rintro e w1 ⟨rfl, hb1⟩
    go_wp2
    go_ret2
    exact ⟨none, 0, rfl, Own2.nil .., hb1⟩
  · cases h2 : outB wins left k
    · have hrace := racer_race h1
      obtain ⟨club, rfl, hkc⟩ := racer_club h1
      obtain ⟨best, hbest⟩ : ∃ best, wins.getD club 0 + leftOf (club : Int) 0 left = best := ⟨_, rfl⟩
      have e1 : canF wins left club = true := by simp [canF, h1, h2]
      have e2 : chanceF wins left club = chanceFrom club best wins left := by rw [chanceF, if_pos e1, Int.toNat_natCast, hbest]
      have hP : proofAt wins left club best = 0 := by
        have h3 := h2
        simp only [outB, proofF, h1, if_true, Int.toNat_natCast, hbest, decide_eq_false_iff_not] at h3
        omega
      rw [e1, e2]
      obtain ⟨v0, hv0⟩ := some_of hkc
      obtain ⟨v1, v2⟩ := hrace.win v0 (List.mem_of_getElem? hv0)
      obtain ⟨l1, l2⟩ := leftOf_bound (n := wins.length) (club : Int) left 0 hrace.games.game
      have hfew := hrace.games.few
      have htwo := hrace.two
      have hsix := hrace.six
      have wv : IntKind.i64.wrap (v0 + leftOf (club : Int) 0 left) = best := by
        have e : wins.getD club 0 = v0 := by rw [List.getD_eq_getElem?_getD, hv0]; rfl
        rw [e] at hbest; rw [hbest]; exact IntWalk.i64_in _ (by omega)
      have hbest2 : 0 ≤ best ∧ best ≤ 500 := by
        have e : wins.getD club 0 = v0 := by rw [List.getD_eq_getElem?_getD, hv0]; rfl
        rw [e] at hbest; omega
      obtain ⟨hbest0, hbest1⟩ := hbest2
      obtain ⟨R, hR⟩ : ∃ R, chanceFrom club best wins left = R := ⟨_, rfl⟩
      rw [hR]
      have hRl : R.length = left.length := by rw [← hR]; exact chanceFrom_len _ _ _ _
      have hbb : ∃ bb : Addr, left = [] ∨ B = some bb := by
        cases left with
        | nil => exact ⟨⟨0, 0, none⟩, .inl rfl⟩
        | cons g r => obtain ⟨ad, _, _, e, _⟩ := Hb.out 0 g rfl; exact ⟨ad, .inr e⟩
      clear e1 e2 hbest l1 l2 v1 v2
      have H1 := Lib.hid h1
      have H2 := Lib.hid h2
      have Hrace := Lib.hid hrace
      have HP := Lib.hid hP
      have HR := Lib.hid hR
      have HRl := Lib.hid hRl
      clear h1 h2 hrace hP hR hRl
      go_enter Try.func38, Try.ntmps38
      go_wp2_with fail
      refine (gives_v (isRacer_c _ _ _ _ _ _ _ _ Ha.out Hb.out hm hm2 hcap) (congrArg Value.bool H1.out)).mono ?_
      rintro e w1 ⟨rfl, hb1⟩
      have Hb1 := Lib.hid hb1
      have Ha1 := Lib.hid (Ha.out.keep (keep_of_below hb1))
      have Hr1 := Lib.hid (Hb.out.keep (keep_of_below hb1))
      clear hb1
      go_wp2_with fail
      refine (gives_v (iIsOut_c _ _ _ _ _ _ _ _ Ha1.out Hr1.out hm hm2 hcap) (congrArg Value.bool H2.out)).mono ?_
      rintro e w2 ⟨rfl, hb2⟩
      have Hb2 := Lib.hid (Hb1.out.trans (hb2.mono Hb1.out.size))
      have Ha2 := Lib.hid (Ha.out.keep (keep_of_below Hb2.out))
      have Hr2 := Lib.hid (Hb.out.keep (keep_of_below Hb2.out))
      clear hb2 Hb1 Ha1 Hr1
      obtain ⟨aa, rfl, hca0⟩ := Ha2.out club v0 hv0
      have hkci : (club : Int) < (wins.length : Int) := by omega
      clear hv0
      go_wp2
      go_quiet ((go_at_call 51; exact quiet_call (gamesLeft_c _ _ _ _ _ (Hr2.out.keep (Keep.drewN _ _)) Hrace.out.games)))
      have Hb3 := Lib.hid (Hb2.out.trans (below_drewN w.heap.size w2 nq))
      have Ha3 := Lib.hid (Ha2.out.keep (Keep.drewN _ nq))
      clear hca0
      generalize w2.drewN nq = w3 at Hb3 Ha3 ⊢
      go_wp2_with fail
      refine (clone_c _ _ _ _ Ha3.out hm).mono ?_
      rintro e w4 ⟨C, cc, rfl, ho4, hb4⟩
      have Hb4 := Lib.hid (Hb3.out.trans (hb4.mono Hb3.out.size))
      have Ho4 := Lib.hid (ho4.wide Hb3.out.size (Nat.le_refl _))
      obtain ⟨gn, rfl, hgn, hgn2⟩ := own_at0 Ho4.out (by omega)
      have Hoe := Lib.hid (out_empty 22 w.heap.size w4 Hb4.out.size)
      have Hb5 := Lib.hid (Hb4.out.alloc Hb4.out.size (.cells #[] 22))
      have Ho5 := Lib.hid ((Ho4.out.below ((Below.refl _ w4).alloc (Nat.le_refl _) (.cells #[] 22))).wide (Nat.le_refl _) (by simp : w4.heap.size ≤ (w4.alloc (.cells #[] 22)).heap.size))
      clear ho4 hb4 hgn hgn2
      go_wp2
      go_loopw [42, 9, 10] (fun i no o wr => ∃ (j gn cn c1 : Nat) (A1 : Option Addr) (now : List Int) (ol : List (List Int)), j ≤ left.length ∧ i = .int .i64 j ∧ no = .slice (some ⟨gn, 0, none⟩) wins.length cn ∧ o = .slice A1 j c1 ∧ now.length = wins.length ∧ ol.length = j ∧ (∀ x ∈ now, 0 ≤ x ∧ x ≤ 200 + 40 * (j : Int)) ∧ proofAt now (left.drop j) club best = 0 ∧ ol ++ chanceFrom club best now (left.drop j) = R ∧ Own 3 w.heap.size wr.heap.size wr (some ⟨gn, 0, none⟩) cn (now.map (.int .i64)) ∧ Own2 3 22 w.heap.size wr.heap.size wr A1 c1 ol ∧ Below w.heap.size w wr) (fun i _ _ _ => left.length - (intOf i).toNat)
      case atStart => exact ⟨0, gn, cc, 0, _, wins, [], Nat.zero_le _, rfl, rfl, rfl, rfl, rfl, fun x hx => by have := Hrace.out.win x hx; omega, HP.out, HR.out, Ho5.out, ⟨[], Hoe.out, Inner.nil ..⟩, Hb5.out⟩
      case round =>
        clear HP HR Hb2 Hb3 Hb4 Hb5 Ha2 Ha3 Hr2 Ho4 Ho5 Hoe
        obtain ⟨j, gn, cn, c1, A1, now, ol, hj, rfl, rfl, rfl, hlo, hol, hbd, hP, hS, hno, hoo, hdn⟩ := hrel
        have HS := Lib.hid hS
        have HP := Lib.hid hP
        have Hlo := Lib.hid hlo
        have Hol := Lib.hid hol
        have Hbd := Lib.hid hbd
        have Hno := Lib.hid hno
        have Hoo := Lib.hid hoo
        have Hdn := Lib.hid hdn
        clear hS hP hlo hol hbd hno hoo hdn
        by_cases hlt : j < left.length
        · obtain ⟨bb, hbb | rfl⟩ := hbb
          · rw [hbb] at hlt; simp at hlt
          · obtain ⟨g, hx⟩ := some_of hlt
            obtain ⟨bd, b', c2, e1, _, _, hcw, hia⟩ := Hb.out j g hx
            obtain rfl : bb = bd := by injection e1
            obtain ⟨a, b, z, rfl, hab, hbn, hz1, hz2⟩ := Hrace.out.games.at_ hx
            obtain ⟨ad, rfl, h0w, h1w, h2w⟩ := ints3 hia
            have hca : wr.cell? (bb.add j) = some (.slice (some ad) 3 c2) := keep_of_below Hdn.out _ _ hcw
            have h0 := keep_of_below Hdn.out _ _ h0w
            have h1 := keep_of_below Hdn.out _ _ h1w
            have h2 := keep_of_below Hdn.out _ _ h2w
            have hP0 := HP.out
            rw [drop_of hx] at hP0
            have hlo : now.length = wins.length := Hlo.out
            obtain ⟨F, hpk, hcf⟩ := chance_step (Hrace.out.games.drop (j + 1)).game (by omega) (by omega) hab hP0
            have HS1 : Hid (ol ++ ([(F : Int), (z : Int) - (F : Int)] :: chanceFrom club best (nextOf now a b z F) (left.drop (j + 1))) = R) := Lib.hid (by have := HS.out; rwa [drop_of hx, hcf] at this)
            have HS2 : Hid ((ol ++ [[(F : Int), (z : Int) - (F : Int)]]) ++ chanceFrom club best (nextOf now a b z F) (left.drop (j + 1)) = R) := Lib.hid (by have := HS1.out; simpa using this)
            have hFz := hpk.le
            have hjl : j < 15 := by omega
            have HB2 : Hid (∀ f, f ≤ z → ∀ x ∈ nextOf now a b z f, 0 ≤ x ∧ x ≤ 200 + 40 * ((j + 1 : Nat) : Int)) := Lib.hid (fun f hf x hx => by have := next_bound (a := a) (b := b) Hbd.out hf hz2 (by omega) x hx; omega)
            have wj : IntKind.i64.wrap ((j : Int) + 1) = (j : Int) + 1 := IntWalk.i64_in _ (by omega)
            have hji : (j : Int) < (left.length : Int) := by omega
            have hbl : (b : Int) < (wins.length : Int) := by omega
            have hal : (a : Int) < (wins.length : Int) := by omega
            have Hc0 := Lib.hid h0w
            have Hc1 := Lib.hid h1w
            have Hc2 := Lib.hid h2w
            clear hcw h0w h1w h2w e1 hcf hia hP0
            have Hpk := Lib.hid hpk
            have Hx := Lib.hid hx
            clear hpk hx
            have hsw := Hdn.out.size
            go_wp2
            go_quiet (fail)
            have Hdw := Lib.hid (Hdn.out.trans (below_drewN w.heap.size wr nq))
            have Hnw := Lib.hid (Hno.out.below (below_drewN wr.heap.size wr nq))
            have How := Lib.hid (Hoo.out.below (below_drewN wr.heap.size wr nq))
            have hsw2 : wr.heap.size = (wr.drewN nq).heap.size := rfl
            rw [hsw2] at Hnw How hsw
            clear hca h0 h1 h2 hsw2 Hno Hoo Hdn
            generalize wr.drewN nq = w6 at Hdw Hnw How hsw ⊢
            go_wp2
            go_loopw [16, 9] (fun i no wr => ∃ (f : Nat), f ≤ F ∧ i = .int .i64 f ∧ no = .slice (some ⟨gn, 0, none⟩) wins.length cn ∧ Below w6.heap.size w6 wr) (fun i _ _ => F - (intOf i).toNat)
            case atStart => exact ⟨0, Nat.zero_le _, rfl, rfl, Below.refl _ _⟩
            case round =>
              obtain ⟨f, hf, rfl, rfl, hd7⟩ := hrel
              have Hd7 := Lib.hid hd7
              clear hd7
              have hfz : (f : Int) ≤ (z : Int) := by omega
              have hfz2 : f ≤ z := by omega
              have wf : IntKind.i64.wrap ((f : Int) + 1) = (f : Int) + 1 := IntWalk.i64_in _ (by omega)
              by_cases hac : a = club
              · have e1 : ((a : Int) == (club : Int)) = true := by simp [hac]
                have e2 : ((b : Int) == (club : Int)) = false := by simp; omega
                by_cases hfk : f < z
                · have hfk2 : (f : Int) < (z : Int) := by omega
                  have hne := Hpk.out.skip hf (by simp [allowed, hac, hfk])
                  have Hac := Lib.hid hac
                  clear hac
                  go_wp2
                  go_roundw
                  case rel => exact ⟨f + 1, hne, by go_num, rfl, Hd7.out⟩
                  case measure => simp [intOf]; omega
                · have hfk2 : ¬ (f : Int) < (z : Int) := by omega
                  have hall : allowed club a b z f = true := by simp [allowed, hac, hfk]; omega
                  have Hac := Lib.hid hac
                  have Hall := Lib.hid hall
                  clear hac hall
                  have hcc := clone_c (some ⟨gn, 0, none⟩) cn now wr ((Hnw.out.below Hd7.out).ints) (by omega)
                  rw [hlo] at hcc
                  have Hcc := Lib.hid hcc
                  clear hcc
                  go_wp2_with fail
                  refine (Hcc.out).mono ?_
                  rintro e w8 ⟨X, cx, rfl, hox, hb8⟩
                  rw [hlo]
                  clear Hcc
                  obtain ⟨gx, rfl, hgx, hgx2⟩ := own_at0 hox (by omega)
                  obtain ⟨u, v, k1, k2, k3, k4, k5, k6, ho5⟩ := two_adds hox (a := a) (b := b) (by omega) (by omega) (f : Int) ((z : Int) - (f : Int))
                  have hu := Hbd.out u (getD_mem' (by omega) k3)
                  have hv := (addAt_bound (k := a) (v := (f : Int)) Hbd.out (by omega) (by omega) (by omega)) v (getD_mem' (by rw [addAt_len]; omega) k6)
                  have wu : IntKind.i64.wrap (u + (f : Int)) = u + (f : Int) := IntWalk.i64_in _ (by omega)
                  have wz : IntKind.i64.wrap ((z : Int) - (f : Int)) = (z : Int) - (f : Int) := IntWalk.i64_in _ (by omega)
                  have wv : IntKind.i64.wrap (v + ((z : Int) - (f : Int))) = v + ((z : Int) - (f : Int)) := IntWalk.i64_in _ (by omega)
                  have hb9 : Below wr.heap.size wr ((w8.setCell ⟨gx, a, none⟩ (.int .i64 (u + (f : Int)))).setCell ⟨gx, b, none⟩ (.int .i64 (v + ((z : Int) - (f : Int))))) := (hb8.setCell (p := ⟨gx, a, none⟩) hgx _).setCell (p := ⟨gx, b, none⟩) hgx _
                  obtain ⟨w9, hw9⟩ : ∃ w9, (w8.setCell ⟨gx, a, none⟩ (.int .i64 (u + (f : Int)))).setCell ⟨gx, b, none⟩ (.int .i64 (v + ((z : Int) - (f : Int)))) = w9 := ⟨_, rfl⟩
                  have hz9 : w8.heap.size = w9.heap.size := by rw [← hw9, setCell_size, setCell_size]
                  rw [hw9] at ho5 hb9
                  have ho6 : Own 3 wr.heap.size w9.heap.size w9 (some ⟨gx, 0, none⟩) cx ((nextOf now a b z f).map (.int .i64)) := by rw [← hz9]; exact ho5
                  have Hb9 := Lib.hid (Hd7.out.trans (hb9.mono Hd7.out.size))
                  have Hdb9 := Lib.hid (Hdw.out.trans (Hb9.out.mono Hdw.out.size))
                  have hwr9 : w6.heap.size ≤ wr.heap.size := Hd7.out.size
                  have hnl : (nextOf now a b z f).length = wins.length := by rw [nextOf_len]; exact hlo
                  have Hro9 := Lib.hid (Hb.out.keep (keep_of_below Hdb9.out))
                  have Hbe := Lib.hid (rows_behind (q := j + 1) Hro9.out hcap)
                  have Hpo := Lib.hid (fun (P : Option Addr) (e : Nat) (hr : Rows w9 P (left.drop (j + 1))) => proofOut_c (some ⟨gx, 0, none⟩) P cx e (nextOf now a b z f) (left.drop (j + 1)) club best w9 ho6.ints hr (by rw [hnl]; exact hsix) (fun x hx => by have := HB2.out f hfz2 x hx; omega) (by rw [hnl]; exact Hrace.out.games.drop (j + 1)) (by rw [hnl]; exact hkc) hbest0 (by omega))
                  obtain ⟨pv, hpv⟩ : ∃ pv, proofAt (nextOf now a b z f) (left.drop (j + 1)) club best = pv := ⟨_, rfl⟩
                  have hdl : (left.drop (j + 1)).length = left.length - (j + 1) := by rw [List.length_drop]
                  rw [hnl, hpv, hdl] at Hpo
                  have Ho6 := Lib.hid ho6
                  have Hpv := Lib.hid hpv
                  have Hnl := Lib.hid hnl
                  have Hdl := Lib.hid hdl
                  clear ho6 hpv hnl hdl
                  clear ho5 hb9 hb8 hox k3 k6 hu hv
                  by_cases hdj : d = j + 1
                  · have hpo2 := Hpo.out (some bb) 0 (by have := Hbe.out; rwa [if_pos hdj] at this)
                    rw [show left.length - (j + 1) = 0 by omega] at hpo2
                    have hdj2 : j + 1 = d := hdj.symm
                    have Hpo2 := Lib.hid hpo2
                    clear hpo2
                    clear hdj Hpo
                    go_wp2_with fail
                    have Hdj2 := Lib.hid hdj2
                    clear hdj2
                    clear hw9
                    by_cases hp0 : pv = 0
                    · have hp0' : (((pv : Nat) : Int) == 0) = true := by simp [hp0]
                      obtain rfl : f = F := Hpk.out.last hf Hall.out (by rw [Hpv.out]; exact hp0)
                      have Hp0 := Lib.hid hp0
                      clear hp0
                      refine (Hpo2.out).mono ?_
                      rintro e w10 ⟨rfl, hb10⟩
                      have hsz10 := hb10.size
                      have Hb10 := Lib.hid (Hb9.out.trans (hb10.mono Hb9.out.size))
                      have Hdb10 := Lib.hid (Hdw.out.trans (Hb10.out.mono Hdw.out.size))
                      have Ho10 := Lib.hid ((Ho6.out.below hb10).wide (by omega : w.heap.size ≤ wr.heap.size) hsz10)
                      have Hol10 := Lib.hid ((How.out.below Hb10.out))
                      clear hb10 Hpo2
                      have hsz6 : w6.heap.size ≤ w10.heap.size := Hb10.out.size
                      have hfi : Hid (proofAt (nextOf now a b z f) (left.drop (j + 1)) club best = 0) := Lib.hid Hpk.out.fits
                      have hrow := own_new2 3 w10 (.int .i64 (f : Int)) (.int .i64 ((z : Int) - (f : Int)))
                      have hbw : Below w10.heap.size w10 (w10.alloc (.cells #[.int .i64 (f : Int), .int .i64 ((z : Int) - (f : Int))] 3)) := (Below.refl _ _).alloc (Nat.le_refl _) _
                      have hez : (w10.alloc (.cells #[.int .i64 (f : Int), .int .i64 ((z : Int) - (f : Int))] 3)).heap.size = w10.heap.size + 1 := by simp
                      have Hol11 := Lib.hid ((Hol10.out.below (hbw.mono hsz6)))
                      have Hn11 := Lib.hid (Ho10.out.below hbw)
                      have Hdb11 := Lib.hid (Hdb10.out.trans (hbw.mono Hdb10.out.size))
                      clear hbw
                      have Hrow := Lib.hid hrow
                      clear hrow
                      go_wp2_with (at_builtin; refine wpList_app2g rfl (.tmp 106) (.tmp 112) 23 rfl 3 22 Try.underlying23 info_ints info_rows_ne w.heap.size w10.heap.size A1 c1 ol (some ⟨w10.heap.size, 0, none⟩) 2 [(f : Int), (z : Int) - (f : Int)] ?_ ?_ ?_ ?_ ?_ j 2 ?_ ?_ ?_ ?_ ?_; exact Hol11.out.wide (Nat.le_refl _) hsz6; (rw [hez]; exact Hrow.out); exact Nat.le_trans hsw hsz6; (rw [hez]; exact Nat.le_succ _); (rw [Hol.out]; omega); exact Hol.out.symm; rfl; rfl; exact congrArg (fun n => Value.slice (some ⟨n, 0, none⟩) 1 1) hez.symm; intro A2 c3 w12 ho12 hb12 hz12 hst12)
                      have hz11 : w10.heap.size ≤ w12.heap.size := by rw [hez] at hz12; omega
                      have HN12 := Lib.hid ((hst12 _ _ _ _ _ _ info_rows_ne (by rw [hez]; exact Nat.le_succ _) Hn11.out).wide (Nat.le_refl _) hz11)
                      have Hdb12 := Lib.hid (Hdb11.out.trans hb12)
                      have Ho12 := Lib.hid ho12
                      clear ho12
                      clear hst12 hb12 hz12
                      go_wp2
                      go_roundw
                      case rel => exact ⟨j + 1, gx, cx, c3, A2, nextOf now a b z f, ol ++ [[(f : Int), (z : Int) - (f : Int)]], by omega, by go_num, rfl, rfl, Hnl.out, by rw [List.length_append, Hol.out]; rfl, HB2.out f hfz2, hfi.out, HS2.out, HN12.out, Ho12.out, Hdb12.out⟩
                      case measure => simp [intOf]; omega
                    · have hp0' : (((pv : Nat) : Int) == 0) = false := by simp; omega
                      have hne := Hpk.out.more hf (by rw [Hpv.out]; exact hp0)
                      have Hp0 := Lib.hid hp0
                      clear hp0
                      refine (Hpo2.out).mono ?_
                      rintro e w10 ⟨rfl, hb10⟩
                      have Hb10 := Lib.hid (Hb9.out.trans (hb10.mono Hb9.out.size))
                      clear hb10
                      go_wp2
                      go_roundw
                      case rel => exact ⟨f + 1, hne, by go_num, rfl, Hb10.out⟩
                      case measure => simp [intOf]; omega
                  · have hpo2 := Hpo.out (some (bb.add (j + 1))) (d - (j + 1)) (by have := Hbe.out; rwa [if_neg hdj] at this)
                    have Hpo2 := Lib.hid hpo2
                    clear hpo2
                    clear Hpo
                    go_wp2_with fail
                    clear hw9
                    by_cases hp0 : pv = 0
                    · have hp0' : (((pv : Nat) : Int) == 0) = true := by simp [hp0]
                      obtain rfl : f = F := Hpk.out.last hf Hall.out (by rw [Hpv.out]; exact hp0)
                      have Hp0 := Lib.hid hp0
                      clear hp0
                      refine (Hpo2.out).mono ?_
                      rintro e w10 ⟨rfl, hb10⟩
                      have hsz10 := hb10.size
                      have Hb10 := Lib.hid (Hb9.out.trans (hb10.mono Hb9.out.size))
                      have Hdb10 := Lib.hid (Hdw.out.trans (Hb10.out.mono Hdw.out.size))
                      have Ho10 := Lib.hid ((Ho6.out.below hb10).wide (by omega : w.heap.size ≤ wr.heap.size) hsz10)
                      have Hol10 := Lib.hid ((How.out.below Hb10.out))
                      clear hb10 Hpo2
                      have hsz6 : w6.heap.size ≤ w10.heap.size := Hb10.out.size
                      have hfi : Hid (proofAt (nextOf now a b z f) (left.drop (j + 1)) club best = 0) := Lib.hid Hpk.out.fits
                      have hrow := own_new2 3 w10 (.int .i64 (f : Int)) (.int .i64 ((z : Int) - (f : Int)))
                      have hbw : Below w10.heap.size w10 (w10.alloc (.cells #[.int .i64 (f : Int), .int .i64 ((z : Int) - (f : Int))] 3)) := (Below.refl _ _).alloc (Nat.le_refl _) _
                      have hez : (w10.alloc (.cells #[.int .i64 (f : Int), .int .i64 ((z : Int) - (f : Int))] 3)).heap.size = w10.heap.size + 1 := by simp
                      have Hol11 := Lib.hid ((Hol10.out.below (hbw.mono hsz6)))
                      have Hn11 := Lib.hid (Ho10.out.below hbw)
                      have Hdb11 := Lib.hid (Hdb10.out.trans (hbw.mono Hdb10.out.size))
                      clear hbw
                      have Hrow := Lib.hid hrow
                      clear hrow
                      go_wp2_with (at_builtin; refine wpList_app2g rfl (.tmp 106) (.tmp 112) 23 rfl 3 22 Try.underlying23 info_ints info_rows_ne w.heap.size w10.heap.size A1 c1 ol (some ⟨w10.heap.size, 0, none⟩) 2 [(f : Int), (z : Int) - (f : Int)] ?_ ?_ ?_ ?_ ?_ j 2 ?_ ?_ ?_ ?_ ?_; exact Hol11.out.wide (Nat.le_refl _) hsz6; (rw [hez]; exact Hrow.out); exact Nat.le_trans hsw hsz6; (rw [hez]; exact Nat.le_succ _); (rw [Hol.out]; omega); exact Hol.out.symm; rfl; rfl; exact congrArg (fun n => Value.slice (some ⟨n, 0, none⟩) 1 1) hez.symm; intro A2 c3 w12 ho12 hb12 hz12 hst12)
                      have hz11 : w10.heap.size ≤ w12.heap.size := by rw [hez] at hz12; omega
                      have HN12 := Lib.hid ((hst12 _ _ _ _ _ _ info_rows_ne (by rw [hez]; exact Nat.le_succ _) Hn11.out).wide (Nat.le_refl _) hz11)
                      have Hdb12 := Lib.hid (Hdb11.out.trans hb12)
                      have Ho12 := Lib.hid ho12
                      clear ho12
                      clear hst12 hb12 hz12
                      go_wp2
                      go_roundw
                      case rel => exact ⟨j + 1, gx, cx, c3, A2, nextOf now a b z f, ol ++ [[(f : Int), (z : Int) - (f : Int)]], by omega, by go_num, rfl, rfl, Hnl.out, by rw [List.length_append, Hol.out]; rfl, HB2.out f hfz2, hfi.out, HS2.out, HN12.out, Ho12.out, Hdb12.out⟩
                      case measure => simp [intOf]; omega
                    · have hp0' : (((pv : Nat) : Int) == 0) = false := by simp; omega
                      have hne := Hpk.out.more hf (by rw [Hpv.out]; exact hp0)
                      have Hp0 := Lib.hid hp0
                      clear hp0
                      refine (Hpo2.out).mono ?_
                      rintro e w10 ⟨rfl, hb10⟩
                      have Hb10 := Lib.hid (Hb9.out.trans (hb10.mono Hb9.out.size))
                      clear hb10
                      go_wp2
                      go_roundw
                      case rel => exact ⟨f + 1, hne, by go_num, rfl, Hb10.out⟩
                      case measure => simp [intOf]; omega
              · have e1 : ((a : Int) == (club : Int)) = false := by simp; omega
                by_cases hbc : b = club
                · have e2 : ((b : Int) == (club : Int)) = true := by simp [hbc]
                  by_cases hf0 : 0 < f
                  · have hf02 : (0 : Int) < (f : Int) := by omega
                    have hne := Hpk.out.skip hf (by simp [allowed, hac, hbc, hf0])
                    have Hac := Lib.hid hac
                    have Hbc := Lib.hid hbc
                    clear hac hbc
                    go_wp2
                    go_roundw
                    case rel => exact ⟨f + 1, hne, by go_num, rfl, Hd7.out⟩
                    case measure => simp [intOf]; omega
                  · have hf02 : ¬ (0 : Int) < (f : Int) := by omega
                    have hall : allowed club a b z f = true := by simp [allowed, hac, hbc]; omega
                    have Hac := Lib.hid hac
                    have Hbc := Lib.hid hbc
                    have Hall := Lib.hid hall
                    clear hac hbc hall
                    have hcc := clone_c (some ⟨gn, 0, none⟩) cn now wr ((Hnw.out.below Hd7.out).ints) (by omega)
                    rw [hlo] at hcc
                    have Hcc := Lib.hid hcc
                    clear hcc
                    go_wp2_with fail
                    refine (Hcc.out).mono ?_
                    rintro e w8 ⟨X, cx, rfl, hox, hb8⟩
                    rw [hlo]
                    clear Hcc
                    obtain ⟨gx, rfl, hgx, hgx2⟩ := own_at0 hox (by omega)
                    obtain ⟨u, v, k1, k2, k3, k4, k5, k6, ho5⟩ := two_adds hox (a := a) (b := b) (by omega) (by omega) (f : Int) ((z : Int) - (f : Int))
                    have hu := Hbd.out u (getD_mem' (by omega) k3)
                    have hv := (addAt_bound (k := a) (v := (f : Int)) Hbd.out (by omega) (by omega) (by omega)) v (getD_mem' (by rw [addAt_len]; omega) k6)
                    have wu : IntKind.i64.wrap (u + (f : Int)) = u + (f : Int) := IntWalk.i64_in _ (by omega)
                    have wz : IntKind.i64.wrap ((z : Int) - (f : Int)) = (z : Int) - (f : Int) := IntWalk.i64_in _ (by omega)
                    have wv : IntKind.i64.wrap (v + ((z : Int) - (f : Int))) = v + ((z : Int) - (f : Int)) := IntWalk.i64_in _ (by omega)
                    have hb9 : Below wr.heap.size wr ((w8.setCell ⟨gx, a, none⟩ (.int .i64 (u + (f : Int)))).setCell ⟨gx, b, none⟩ (.int .i64 (v + ((z : Int) - (f : Int))))) := (hb8.setCell (p := ⟨gx, a, none⟩) hgx _).setCell (p := ⟨gx, b, none⟩) hgx _
                    obtain ⟨w9, hw9⟩ : ∃ w9, (w8.setCell ⟨gx, a, none⟩ (.int .i64 (u + (f : Int)))).setCell ⟨gx, b, none⟩ (.int .i64 (v + ((z : Int) - (f : Int)))) = w9 := ⟨_, rfl⟩
                    have hz9 : w8.heap.size = w9.heap.size := by rw [← hw9, setCell_size, setCell_size]
                    rw [hw9] at ho5 hb9
                    have ho6 : Own 3 wr.heap.size w9.heap.size w9 (some ⟨gx, 0, none⟩) cx ((nextOf now a b z f).map (.int .i64)) := by rw [← hz9]; exact ho5
                    have Hb9 := Lib.hid (Hd7.out.trans (hb9.mono Hd7.out.size))
                    have Hdb9 := Lib.hid (Hdw.out.trans (Hb9.out.mono Hdw.out.size))
                    have hwr9 : w6.heap.size ≤ wr.heap.size := Hd7.out.size
                    have hnl : (nextOf now a b z f).length = wins.length := by rw [nextOf_len]; exact hlo
                    have Hro9 := Lib.hid (Hb.out.keep (keep_of_below Hdb9.out))
                    have Hbe := Lib.hid (rows_behind (q := j + 1) Hro9.out hcap)
                    have Hpo := Lib.hid (fun (P : Option Addr) (e : Nat) (hr : Rows w9 P (left.drop (j + 1))) => proofOut_c (some ⟨gx, 0, none⟩) P cx e (nextOf now a b z f) (left.drop (j + 1)) club best w9 ho6.ints hr (by rw [hnl]; exact hsix) (fun x hx => by have := HB2.out f hfz2 x hx; omega) (by rw [hnl]; exact Hrace.out.games.drop (j + 1)) (by rw [hnl]; exact hkc) hbest0 (by omega))
                    obtain ⟨pv, hpv⟩ : ∃ pv, proofAt (nextOf now a b z f) (left.drop (j + 1)) club best = pv := ⟨_, rfl⟩
                    have hdl : (left.drop (j + 1)).length = left.length - (j + 1) := by rw [List.length_drop]
                    rw [hnl, hpv, hdl] at Hpo
                    have Ho6 := Lib.hid ho6
                    have Hpv := Lib.hid hpv
                    have Hnl := Lib.hid hnl
                    have Hdl := Lib.hid hdl
                    clear ho6 hpv hnl hdl
                    clear ho5 hb9 hb8 hox k3 k6 hu hv
                    by_cases hdj : d = j + 1
                    · have hpo2 := Hpo.out (some bb) 0 (by have := Hbe.out; rwa [if_pos hdj] at this)
                      rw [show left.length - (j + 1) = 0 by omega] at hpo2
                      have hdj2 : j + 1 = d := hdj.symm
                      have Hpo2 := Lib.hid hpo2
                      clear hpo2
                      clear hdj Hpo
                      go_wp2_with fail
                      have Hdj2 := Lib.hid hdj2
                      clear hdj2
                      clear hw9
                      by_cases hp0 : pv = 0
                      · have hp0' : (((pv : Nat) : Int) == 0) = true := by simp [hp0]
                        obtain rfl : f = F := Hpk.out.last hf Hall.out (by rw [Hpv.out]; exact hp0)
                        have Hp0 := Lib.hid hp0
                        clear hp0
                        refine (Hpo2.out).mono ?_
                        rintro e w10 ⟨rfl, hb10⟩
                        have hsz10 := hb10.size
                        have Hb10 := Lib.hid (Hb9.out.trans (hb10.mono Hb9.out.size))
                        have Hdb10 := Lib.hid (Hdw.out.trans (Hb10.out.mono Hdw.out.size))
                        have Ho10 := Lib.hid ((Ho6.out.below hb10).wide (by omega : w.heap.size ≤ wr.heap.size) hsz10)
                        have Hol10 := Lib.hid ((How.out.below Hb10.out))
                        clear hb10 Hpo2
                        have hsz6 : w6.heap.size ≤ w10.heap.size := Hb10.out.size
                        have hfi : Hid (proofAt (nextOf now a b z f) (left.drop (j + 1)) club best = 0) := Lib.hid Hpk.out.fits
                        have hrow := own_new2 3 w10 (.int .i64 (f : Int)) (.int .i64 ((z : Int) - (f : Int)))
                        have hbw : Below w10.heap.size w10 (w10.alloc (.cells #[.int .i64 (f : Int), .int .i64 ((z : Int) - (f : Int))] 3)) := (Below.refl _ _).alloc (Nat.le_refl _) _
                        have hez : (w10.alloc (.cells #[.int .i64 (f : Int), .int .i64 ((z : Int) - (f : Int))] 3)).heap.size = w10.heap.size + 1 := by simp
                        have Hol11 := Lib.hid ((Hol10.out.below (hbw.mono hsz6)))
                        have Hn11 := Lib.hid (Ho10.out.below hbw)
                        have Hdb11 := Lib.hid (Hdb10.out.trans (hbw.mono Hdb10.out.size))
                        clear hbw
                        have Hrow := Lib.hid hrow
                        clear hrow
                        go_wp2_with (at_builtin; refine wpList_app2g rfl (.tmp 106) (.tmp 112) 23 rfl 3 22 Try.underlying23 info_ints info_rows_ne w.heap.size w10.heap.size A1 c1 ol (some ⟨w10.heap.size, 0, none⟩) 2 [(f : Int), (z : Int) - (f : Int)] ?_ ?_ ?_ ?_ ?_ j 2 ?_ ?_ ?_ ?_ ?_; exact Hol11.out.wide (Nat.le_refl _) hsz6; (rw [hez]; exact Hrow.out); exact Nat.le_trans hsw hsz6; (rw [hez]; exact Nat.le_succ _); (rw [Hol.out]; omega); exact Hol.out.symm; rfl; rfl; exact congrArg (fun n => Value.slice (some ⟨n, 0, none⟩) 1 1) hez.symm; intro A2 c3 w12 ho12 hb12 hz12 hst12)
                        have hz11 : w10.heap.size ≤ w12.heap.size := by rw [hez] at hz12; omega
                        have HN12 := Lib.hid ((hst12 _ _ _ _ _ _ info_rows_ne (by rw [hez]; exact Nat.le_succ _) Hn11.out).wide (Nat.le_refl _) hz11)
                        have Hdb12 := Lib.hid (Hdb11.out.trans hb12)
                        have Ho12 := Lib.hid ho12
                        clear ho12
                        clear hst12 hb12 hz12
                        go_wp2
                        go_roundw
                        case rel => exact ⟨j + 1, gx, cx, c3, A2, nextOf now a b z f, ol ++ [[(f : Int), (z : Int) - (f : Int)]], by omega, by go_num, rfl, rfl, Hnl.out, by rw [List.length_append, Hol.out]; rfl, HB2.out f hfz2, hfi.out, HS2.out, HN12.out, Ho12.out, Hdb12.out⟩
                        case measure => simp [intOf]; omega
                      · have hp0' : (((pv : Nat) : Int) == 0) = false := by simp; omega
                        have hne := Hpk.out.more hf (by rw [Hpv.out]; exact hp0)
                        have Hp0 := Lib.hid hp0
                        clear hp0
                        refine (Hpo2.out).mono ?_
                        rintro e w10 ⟨rfl, hb10⟩
                        have Hb10 := Lib.hid (Hb9.out.trans (hb10.mono Hb9.out.size))
                        clear hb10
                        go_wp2
                        go_roundw
                        case rel => exact ⟨f + 1, hne, by go_num, rfl, Hb10.out⟩
                        case measure => simp [intOf]; omega
                    · have hpo2 := Hpo.out (some (bb.add (j + 1))) (d - (j + 1)) (by have := Hbe.out; rwa [if_neg hdj] at this)
                      have Hpo2 := Lib.hid hpo2
                      clear hpo2
                      clear Hpo
                      go_wp2_with fail
                      clear hw9
                      by_cases hp0 : pv = 0
                      · have hp0' : (((pv : Nat) : Int) == 0) = true := by simp [hp0]
                        obtain rfl : f = F := Hpk.out.last hf Hall.out (by rw [Hpv.out]; exact hp0)
                        have Hp0 := Lib.hid hp0
                        clear hp0
                        refine (Hpo2.out).mono ?_
                        rintro e w10 ⟨rfl, hb10⟩
                        have hsz10 := hb10.size
                        have Hb10 := Lib.hid (Hb9.out.trans (hb10.mono Hb9.out.size))
                        have Hdb10 := Lib.hid (Hdw.out.trans (Hb10.out.mono Hdw.out.size))
                        have Ho10 := Lib.hid ((Ho6.out.below hb10).wide (by omega : w.heap.size ≤ wr.heap.size) hsz10)
                        have Hol10 := Lib.hid ((How.out.below Hb10.out))
                        clear hb10 Hpo2
                        have hsz6 : w6.heap.size ≤ w10.heap.size := Hb10.out.size
                        have hfi : Hid (proofAt (nextOf now a b z f) (left.drop (j + 1)) club best = 0) := Lib.hid Hpk.out.fits
                        have hrow := own_new2 3 w10 (.int .i64 (f : Int)) (.int .i64 ((z : Int) - (f : Int)))
                        have hbw : Below w10.heap.size w10 (w10.alloc (.cells #[.int .i64 (f : Int), .int .i64 ((z : Int) - (f : Int))] 3)) := (Below.refl _ _).alloc (Nat.le_refl _) _
                        have hez : (w10.alloc (.cells #[.int .i64 (f : Int), .int .i64 ((z : Int) - (f : Int))] 3)).heap.size = w10.heap.size + 1 := by simp
                        have Hol11 := Lib.hid ((Hol10.out.below (hbw.mono hsz6)))
                        have Hn11 := Lib.hid (Ho10.out.below hbw)
                        have Hdb11 := Lib.hid (Hdb10.out.trans (hbw.mono Hdb10.out.size))
                        clear hbw
                        have Hrow := Lib.hid hrow
                        clear hrow
                        go_wp2_with (at_builtin; refine wpList_app2g rfl (.tmp 106) (.tmp 112) 23 rfl 3 22 Try.underlying23 info_ints info_rows_ne w.heap.size w10.heap.size A1 c1 ol (some ⟨w10.heap.size, 0, none⟩) 2 [(f : Int), (z : Int) - (f : Int)] ?_ ?_ ?_ ?_ ?_ j 2 ?_ ?_ ?_ ?_ ?_; exact Hol11.out.wide (Nat.le_refl _) hsz6; (rw [hez]; exact Hrow.out); exact Nat.le_trans hsw hsz6; (rw [hez]; exact Nat.le_succ _); (rw [Hol.out]; omega); exact Hol.out.symm; rfl; rfl; exact congrArg (fun n => Value.slice (some ⟨n, 0, none⟩) 1 1) hez.symm; intro A2 c3 w12 ho12 hb12 hz12 hst12)
                        have hz11 : w10.heap.size ≤ w12.heap.size := by rw [hez] at hz12; omega
                        have HN12 := Lib.hid ((hst12 _ _ _ _ _ _ info_rows_ne (by rw [hez]; exact Nat.le_succ _) Hn11.out).wide (Nat.le_refl _) hz11)
                        have Hdb12 := Lib.hid (Hdb11.out.trans hb12)
                        have Ho12 := Lib.hid ho12
                        clear ho12
                        clear hst12 hb12 hz12
                        go_wp2
                        go_roundw
                        case rel => exact ⟨j + 1, gx, cx, c3, A2, nextOf now a b z f, ol ++ [[(f : Int), (z : Int) - (f : Int)]], by omega, by go_num, rfl, rfl, Hnl.out, by rw [List.length_append, Hol.out]; rfl, HB2.out f hfz2, hfi.out, HS2.out, HN12.out, Ho12.out, Hdb12.out⟩
                        case measure => simp [intOf]; omega
                      · have hp0' : (((pv : Nat) : Int) == 0) = false := by simp; omega
                        have hne := Hpk.out.more hf (by rw [Hpv.out]; exact hp0)
                        have Hp0 := Lib.hid hp0
                        clear hp0
                        refine (Hpo2.out).mono ?_
                        rintro e w10 ⟨rfl, hb10⟩
                        have Hb10 := Lib.hid (Hb9.out.trans (hb10.mono Hb9.out.size))
                        clear hb10
                        go_wp2
                        go_roundw
                        case rel => exact ⟨f + 1, hne, by go_num, rfl, Hb10.out⟩
                        case measure => simp [intOf]; omega
                · have e2 : ((b : Int) == (club : Int)) = false := by simp; omega
                  have hall : allowed club a b z f = true := by simp [allowed, hac, hbc]
                  have Hac := Lib.hid hac
                  have Hbc := Lib.hid hbc
                  have Hall := Lib.hid hall
                  clear hac hbc hall
                  have hcc := clone_c (some ⟨gn, 0, none⟩) cn now wr ((Hnw.out.below Hd7.out).ints) (by omega)
                  rw [hlo] at hcc
                  have Hcc := Lib.hid hcc
                  clear hcc
                  go_wp2_with fail
                  refine (Hcc.out).mono ?_
                  rintro e w8 ⟨X, cx, rfl, hox, hb8⟩
                  rw [hlo]
                  clear Hcc
                  obtain ⟨gx, rfl, hgx, hgx2⟩ := own_at0 hox (by omega)
                  obtain ⟨u, v, k1, k2, k3, k4, k5, k6, ho5⟩ := two_adds hox (a := a) (b := b) (by omega) (by omega) (f : Int) ((z : Int) - (f : Int))
                  have hu := Hbd.out u (getD_mem' (by omega) k3)
                  have hv := (addAt_bound (k := a) (v := (f : Int)) Hbd.out (by omega) (by omega) (by omega)) v (getD_mem' (by rw [addAt_len]; omega) k6)
                  have wu : IntKind.i64.wrap (u + (f : Int)) = u + (f : Int) := IntWalk.i64_in _ (by omega)
                  have wz : IntKind.i64.wrap ((z : Int) - (f : Int)) = (z : Int) - (f : Int) := IntWalk.i64_in _ (by omega)
                  have wv : IntKind.i64.wrap (v + ((z : Int) - (f : Int))) = v + ((z : Int) - (f : Int)) := IntWalk.i64_in _ (by omega)
                  have hb9 : Below wr.heap.size wr ((w8.setCell ⟨gx, a, none⟩ (.int .i64 (u + (f : Int)))).setCell ⟨gx, b, none⟩ (.int .i64 (v + ((z : Int) - (f : Int))))) := (hb8.setCell (p := ⟨gx, a, none⟩) hgx _).setCell (p := ⟨gx, b, none⟩) hgx _
                  obtain ⟨w9, hw9⟩ : ∃ w9, (w8.setCell ⟨gx, a, none⟩ (.int .i64 (u + (f : Int)))).setCell ⟨gx, b, none⟩ (.int .i64 (v + ((z : Int) - (f : Int)))) = w9 := ⟨_, rfl⟩
                  have hz9 : w8.heap.size = w9.heap.size := by rw [← hw9, setCell_size, setCell_size]
                  rw [hw9] at ho5 hb9
                  have ho6 : Own 3 wr.heap.size w9.heap.size w9 (some ⟨gx, 0, none⟩) cx ((nextOf now a b z f).map (.int .i64)) := by rw [← hz9]; exact ho5
                  have Hb9 := Lib.hid (Hd7.out.trans (hb9.mono Hd7.out.size))
                  have Hdb9 := Lib.hid (Hdw.out.trans (Hb9.out.mono Hdw.out.size))
                  have hwr9 : w6.heap.size ≤ wr.heap.size := Hd7.out.size
                  have hnl : (nextOf now a b z f).length = wins.length := by rw [nextOf_len]; exact hlo
                  have Hro9 := Lib.hid (Hb.out.keep (keep_of_below Hdb9.out))
                  have Hbe := Lib.hid (rows_behind (q := j + 1) Hro9.out hcap)
                  have Hpo := Lib.hid (fun (P : Option Addr) (e : Nat) (hr : Rows w9 P (left.drop (j + 1))) => proofOut_c (some ⟨gx, 0, none⟩) P cx e (nextOf now a b z f) (left.drop (j + 1)) club best w9 ho6.ints hr (by rw [hnl]; exact hsix) (fun x hx => by have := HB2.out f hfz2 x hx; omega) (by rw [hnl]; exact Hrace.out.games.drop (j + 1)) (by rw [hnl]; exact hkc) hbest0 (by omega))
                  obtain ⟨pv, hpv⟩ : ∃ pv, proofAt (nextOf now a b z f) (left.drop (j + 1)) club best = pv := ⟨_, rfl⟩
                  have hdl : (left.drop (j + 1)).length = left.length - (j + 1) := by rw [List.length_drop]
                  rw [hnl, hpv, hdl] at Hpo
                  have Ho6 := Lib.hid ho6
                  have Hpv := Lib.hid hpv
                  have Hnl := Lib.hid hnl
                  have Hdl := Lib.hid hdl
                  clear ho6 hpv hnl hdl
                  clear ho5 hb9 hb8 hox k3 k6 hu hv
                  by_cases hdj : d = j + 1
                  · have hpo2 := Hpo.out (some bb) 0 (by have := Hbe.out; rwa [if_pos hdj] at this)
                    rw [show left.length - (j + 1) = 0 by omega] at hpo2
                    have hdj2 : j + 1 = d := hdj.symm
                    have Hpo2 := Lib.hid hpo2
                    clear hpo2
                    clear hdj Hpo
                    go_wp2_with fail
                    have Hdj2 := Lib.hid hdj2
                    clear hdj2
                    clear hw9
                    by_cases hp0 : pv = 0
                    · have hp0' : (((pv : Nat) : Int) == 0) = true := by simp [hp0]
                      obtain rfl : f = F := Hpk.out.last hf Hall.out (by rw [Hpv.out]; exact hp0)
                      have Hp0 := Lib.hid hp0
                      clear hp0
                      refine (Hpo2.out).mono ?_
                      rintro e w10 ⟨rfl, hb10⟩
                      have hsz10 := hb10.size
                      have Hb10 := Lib.hid (Hb9.out.trans (hb10.mono Hb9.out.size))
                      have Hdb10 := Lib.hid (Hdw.out.trans (Hb10.out.mono Hdw.out.size))
                      have Ho10 := Lib.hid ((Ho6.out.below hb10).wide (by omega : w.heap.size ≤ wr.heap.size) hsz10)
                      have Hol10 := Lib.hid ((How.out.below Hb10.out))
                      clear hb10 Hpo2
                      have hsz6 : w6.heap.size ≤ w10.heap.size := Hb10.out.size
                      have hfi : Hid (proofAt (nextOf now a b z f) (left.drop (j + 1)) club best = 0) := Lib.hid Hpk.out.fits
                      have hrow := own_new2 3 w10 (.int .i64 (f : Int)) (.int .i64 ((z : Int) - (f : Int)))
                      have hbw : Below w10.heap.size w10 (w10.alloc (.cells #[.int .i64 (f : Int), .int .i64 ((z : Int) - (f : Int))] 3)) := (Below.refl _ _).alloc (Nat.le_refl _) _
                      have hez : (w10.alloc (.cells #[.int .i64 (f : Int), .int .i64 ((z : Int) - (f : Int))] 3)).heap.size = w10.heap.size + 1 := by simp
                      have Hol11 := Lib.hid ((Hol10.out.below (hbw.mono hsz6)))
                      have Hn11 := Lib.hid (Ho10.out.below hbw)
                      have Hdb11 := Lib.hid (Hdb10.out.trans (hbw.mono Hdb10.out.size))
                      clear hbw
                      have Hrow := Lib.hid hrow
                      clear hrow
                      go_wp2_with (at_builtin; refine wpList_app2g rfl (.tmp 106) (.tmp 112) 23 rfl 3 22 Try.underlying23 info_ints info_rows_ne w.heap.size w10.heap.size A1 c1 ol (some ⟨w10.heap.size, 0, none⟩) 2 [(f : Int), (z : Int) - (f : Int)] ?_ ?_ ?_ ?_ ?_ j 2 ?_ ?_ ?_ ?_ ?_; exact Hol11.out.wide (Nat.le_refl _) hsz6; (rw [hez]; exact Hrow.out); exact Nat.le_trans hsw hsz6; (rw [hez]; exact Nat.le_succ _); (rw [Hol.out]; omega); exact Hol.out.symm; rfl; rfl; exact congrArg (fun n => Value.slice (some ⟨n, 0, none⟩) 1 1) hez.symm; intro A2 c3 w12 ho12 hb12 hz12 hst12)
                      have hz11 : w10.heap.size ≤ w12.heap.size := by rw [hez] at hz12; omega
                      have HN12 := Lib.hid ((hst12 _ _ _ _ _ _ info_rows_ne (by rw [hez]; exact Nat.le_succ _) Hn11.out).wide (Nat.le_refl _) hz11)
                      have Hdb12 := Lib.hid (Hdb11.out.trans hb12)
                      have Ho12 := Lib.hid ho12
                      clear ho12
                      clear hst12 hb12 hz12
                      go_wp2
                      go_roundw
                      case rel => exact ⟨j + 1, gx, cx, c3, A2, nextOf now a b z f, ol ++ [[(f : Int), (z : Int) - (f : Int)]], by omega, by go_num, rfl, rfl, Hnl.out, by rw [List.length_append, Hol.out]; rfl, HB2.out f hfz2, hfi.out, HS2.out, HN12.out, Ho12.out, Hdb12.out⟩
                      case measure => simp [intOf]; omega
                    · have hp0' : (((pv : Nat) : Int) == 0) = false := by simp; omega
                      have hne := Hpk.out.more hf (by rw [Hpv.out]; exact hp0)
                      have Hp0 := Lib.hid hp0
                      clear hp0
                      refine (Hpo2.out).mono ?_
                      rintro e w10 ⟨rfl, hb10⟩
                      have Hb10 := Lib.hid (Hb9.out.trans (hb10.mono Hb9.out.size))
                      clear hb10
                      go_wp2
                      go_roundw
                      case rel => exact ⟨f + 1, hne, by go_num, rfl, Hb10.out⟩
                      case measure => simp [intOf]; omega
                  · have hpo2 := Hpo.out (some (bb.add (j + 1))) (d - (j + 1)) (by have := Hbe.out; rwa [if_neg hdj] at this)
                    have Hpo2 := Lib.hid hpo2
                    clear hpo2
                    clear Hpo
                    go_wp2_with fail
                    clear hw9
                    by_cases hp0 : pv = 0
                    · have hp0' : (((pv : Nat) : Int) == 0) = true := by simp [hp0]
                      obtain rfl : f = F := Hpk.out.last hf Hall.out (by rw [Hpv.out]; exact hp0)
                      have Hp0 := Lib.hid hp0
                      clear hp0
                      refine (Hpo2.out).mono ?_
                      rintro e w10 ⟨rfl, hb10⟩
                      have hsz10 := hb10.size
                      have Hb10 := Lib.hid (Hb9.out.trans (hb10.mono Hb9.out.size))
                      have Hdb10 := Lib.hid (Hdw.out.trans (Hb10.out.mono Hdw.out.size))
                      have Ho10 := Lib.hid ((Ho6.out.below hb10).wide (by omega : w.heap.size ≤ wr.heap.size) hsz10)
                      have Hol10 := Lib.hid ((How.out.below Hb10.out))
                      clear hb10 Hpo2
                      have hsz6 : w6.heap.size ≤ w10.heap.size := Hb10.out.size
                      have hfi : Hid (proofAt (nextOf now a b z f) (left.drop (j + 1)) club best = 0) := Lib.hid Hpk.out.fits
                      have hrow := own_new2 3 w10 (.int .i64 (f : Int)) (.int .i64 ((z : Int) - (f : Int)))
                      have hbw : Below w10.heap.size w10 (w10.alloc (.cells #[.int .i64 (f : Int), .int .i64 ((z : Int) - (f : Int))] 3)) := (Below.refl _ _).alloc (Nat.le_refl _) _
                      have hez : (w10.alloc (.cells #[.int .i64 (f : Int), .int .i64 ((z : Int) - (f : Int))] 3)).heap.size = w10.heap.size + 1 := by simp
                      have Hol11 := Lib.hid ((Hol10.out.below (hbw.mono hsz6)))
                      have Hn11 := Lib.hid (Ho10.out.below hbw)
                      have Hdb11 := Lib.hid (Hdb10.out.trans (hbw.mono Hdb10.out.size))
                      clear hbw
                      have Hrow := Lib.hid hrow
                      clear hrow
                      go_wp2_with (at_builtin; refine wpList_app2g rfl (.tmp 106) (.tmp 112) 23 rfl 3 22 Try.underlying23 info_ints info_rows_ne w.heap.size w10.heap.size A1 c1 ol (some ⟨w10.heap.size, 0, none⟩) 2 [(f : Int), (z : Int) - (f : Int)] ?_ ?_ ?_ ?_ ?_ j 2 ?_ ?_ ?_ ?_ ?_; exact Hol11.out.wide (Nat.le_refl _) hsz6; (rw [hez]; exact Hrow.out); exact Nat.le_trans hsw hsz6; (rw [hez]; exact Nat.le_succ _); (rw [Hol.out]; omega); exact Hol.out.symm; rfl; rfl; exact congrArg (fun n => Value.slice (some ⟨n, 0, none⟩) 1 1) hez.symm; intro A2 c3 w12 ho12 hb12 hz12 hst12)
                      have hz11 : w10.heap.size ≤ w12.heap.size := by rw [hez] at hz12; omega
                      have HN12 := Lib.hid ((hst12 _ _ _ _ _ _ info_rows_ne (by rw [hez]; exact Nat.le_succ _) Hn11.out).wide (Nat.le_refl _) hz11)
                      have Hdb12 := Lib.hid (Hdb11.out.trans hb12)
                      have Ho12 := Lib.hid ho12
                      clear ho12
                      clear hst12 hb12 hz12
                      go_wp2
                      go_roundw
                      case rel => exact ⟨j + 1, gx, cx, c3, A2, nextOf now a b z f, ol ++ [[(f : Int), (z : Int) - (f : Int)]], by omega, by go_num, rfl, rfl, Hnl.out, by rw [List.length_append, Hol.out]; rfl, HB2.out f hfz2, hfi.out, HS2.out, HN12.out, Ho12.out, Hdb12.out⟩
                      case measure => simp [intOf]; omega
                    · have hp0' : (((pv : Nat) : Int) == 0) = false := by simp; omega
                      have hne := Hpk.out.more hf (by rw [Hpv.out]; exact hp0)
                      have Hp0 := Lib.hid hp0
                      clear hp0
                      refine (Hpo2.out).mono ?_
                      rintro e w10 ⟨rfl, hb10⟩
                      have Hb10 := Lib.hid (Hb9.out.trans (hb10.mono Hb9.out.size))
                      clear hb10
                      go_wp2
                      go_roundw
                      case rel => exact ⟨f + 1, hne, by go_num, rfl, Hb10.out⟩
                      case measure => simp [intOf]; omega
        · obtain rfl : j = left.length := by omega
          have HS1 : Hid (ol = R) := Lib.hid (by have := HS.out; rwa [List.drop_length, chanceFrom, List.append_nil] at this)
          go_wp2
          go_ret2
          rw [← HS1.out]
          exact ⟨A1, c1, by rw [Hol.out]; rfl, Hoo.out, Hdn.out⟩
    · have e1 : canF wins left k = false := by simp [canF, h1, h2]
      have e2 : chanceF wins left k = [] := by simp [chanceF, e1]
      rw [e1, e2]
      clear e1 e2
      have H1 := Lib.hid h1
      have H2 := Lib.hid h2
      clear h1 h2
      go_enter Try.func38, Try.ntmps38
      go_wp2_with fail
      refine (gives_v (isRacer_c _ _ _ _ _ _ _ _ Ha.out Hb.out hm hm2 hcap) (congrArg Value.bool H1.out)).mono ?_
      rintro e w1 ⟨rfl, hb1⟩
      have Hb1 := Lib.hid hb1
      clear hb1
      go_wp2_with fail
      refine (gives_v (iIsOut_c _ _ _ _ _ _ _ _ (Ha.out.keep (keep_of_below Hb1.out)) (Hb.out.keep (keep_of_below Hb1.out)) hm hm2 hcap) (congrArg Value.bool H2.out)).mono ?_
      rintro e w2 ⟨rfl, hb2⟩
      go_wp2
      go_ret2
      exact ⟨none, 0, rfl, Own2.nil .., Hb1.out.trans (hb2.mono Hb1.out.size)⟩
end Go.Proofs.Ytdgmmgaihgpccaa

