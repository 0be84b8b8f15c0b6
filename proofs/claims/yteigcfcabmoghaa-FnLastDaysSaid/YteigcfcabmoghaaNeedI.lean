/- Contracts: NeedsWin (program). -/
import Derived.Test.YteigcfcabmoghaaNeedS
import Derived.Test.YteigcfcabmoghaaIdx
import Derived.Test.YteigcfcabmoghaaDayF
import Derived.Deep.RegionHeld3
import Derived.Shelf.Abstract
namespace Go.Proofs.Yteigcfcabmoghaa
set_option linter.unusedSimpArgs false
set_option linter.unusedVariables false
open Go.RowKit

/-- A predicate on some rows: in whatever world that lies draws behind w it answers, and draws alone. -/
def PredR (g : Nat) (lb : Array Value) (p : List Int → Bool) (xss : List (List Int)) (w : World) : Prop :=
  ∀ (W : World) (a : Option Addr) (c : Nat) (r : List Int), r ∈ xss → Dr w W → Ints W a r → Calls Try.prog g (#[.slice a r.length c] ++ lb) W (Quiet W (.bool (p r)))

set_option maxHeartbeats 400000 in
theorem indexR_c (g : Nat) (lb : Array Value) (p : List Int → Bool) (A : Option Addr) (n c : Nat) (xss : List (List Int)) (w : World) (eg : ∀ args w, (callFunc g args).run Try.prog w = .ok (.enter g args) w)
    (hp : PredR g lb p xss w) (ha : Rows w A xss) (hn : n = xss.length) (hm : n ≤ 1048576) :
    Calls Try.prog 57 #[.slice A n c, .func (.func g) #[] lb] w (Quiet w (.int .i64 (idxFrom p 0 xss))) := by
  subst hn
  generalize hR : idxFrom p 0 xss = R
  have HR := Lib.hid hR
  clear hR
  have Ha := Lib.hid ha
  have Hp := Lib.hid hp
  clear ha hp
  go_enter Try.func57, Try.ntmps57
  go_wp2
  go_loopw [5, 8] (fun _ i wr => ∃ k : Nat, k ≤ xss.length ∧ i = .int .i64 k ∧ idxFrom p k (xss.drop k) = R ∧ Dr w wr) (fun _ i _ => xss.length - (intOf i).toNat)
  case atStart => exact ⟨0, Nat.zero_le _, rfl, HR.out, Dr.refl _⟩
  case round =>
    obtain ⟨k, hk, rfl, hS, hd⟩ := hrel
    have HS := Lib.hid hS
    have Hd := Lib.hid hd
    clear hS hd
    by_cases hlt : k < xss.length
    · obtain ⟨v, hv⟩ := some_of hlt
      obtain ⟨ad, a, c', rfl, _, _, hca, hia⟩ := Ha.out.keep Hd.out.keep k v hv
      have hcall := Hp.out wr a c' v (List.mem_of_getElem? hv) Hd.out hia
      clear hia
      cases hpv : p v
      · have HS2 : Hid (idxFrom p (k + 1) (xss.drop (k + 1)) = R) := Lib.hid (by have := HS.out; rw [drop_of hv, idxFrom, hpv] at this; exact this)
        rw [hpv] at hcall
        have Hv := Lib.hid hv
        have Hpv := Lib.hid hpv
        clear hv hpv
        go_wp2_with fail
        refine hcall.mono ?_
        rintro e w1 ⟨rfl, q, rfl⟩
        go_wp2
        go_roundw
        case rel => exact ⟨k + 1, by omega, by go_num, HS2.out, Hd.out.dN _⟩
        case measure => simp [intOf]; omega
      · have HS2 : Hid ((k : Int) = R) := Lib.hid (by have := HS.out; rw [drop_of hv, idxFrom, hpv] at this; exact this)
        rw [hpv] at hcall
        have Hv := Lib.hid hv
        have Hpv := Lib.hid hpv
        clear hv hpv
        go_wp2_with fail
        refine hcall.mono ?_
        rintro e w1 ⟨rfl, q, rfl⟩
        go_wp2
        go_ret
        exact ⟨ret_int HS2.out, Hd.out.dN _⟩
    · obtain rfl : k = xss.length := by omega
      go_wp2
      go_ret
      exact ⟨ret_int (by have := HS.out; rwa [List.drop_length, idxFrom] at this), Hd.out⟩


theorem idxFrom_spec {α : Type} (p : α → Bool) : ∀ (l : List α) (k : Nat), l.any p = true → ∃ (j : Nat) (x : α), idxFrom p k l = ((k + j : Nat) : Int) ∧ l[j]? = some x ∧ p x = true ∧ ∀ i x', i < j → l[i]? = some x' → p x' = false
  | [], _, h => by simp at h
  | x :: r, k, h => by
    cases hp : p x
    · rw [List.any_cons, hp, Bool.false_or] at h
      obtain ⟨j, y, h1, h2, h3, h4⟩ := idxFrom_spec p r (k + 1) h
      refine ⟨j + 1, y, by rw [idxFrom, hp]; simp only [Bool.false_eq_true, if_false]; rw [h1]; congr 1; omega, by simpa using h2, h3, fun i x' hi hx => ?_⟩
      rcases i with _ | i
      · simp at hx; rw [← hx]; exact hp
      · exact h4 i x' (by omega) (by simpa using hx)
    · exact ⟨0, x, by rw [idxFrom, hp]; rfl, rfl, hp, fun i x' hi => by omega⟩
set_option maxHeartbeats 1000000 in
theorem need1_c (c : Nat) (b : Nat) (g : List Int) (a : Option Addr) (c' : Nat) (W : World) (ha : Ints W a g) (hc : W.cell? ⟨b, 0, none⟩ = some (.int .i64 (c : Int))) (hm : g.length ≤ 1048576) :
    Calls Try.prog 58 #[.slice a g.length c', .pointer (some ⟨b, 0, none⟩)] W (Quiet W (.bool (hasC c g))) := by
  have hcc := contains_c a c' g (c : Int) W ha hm
  have e : decide ((c : Int) ∈ g) = hasC c g := rfl
  rw [e] at hcc
  generalize hasC c g = R at hcc
  have Hcc := Lib.hid hcc
  have Ha := Lib.hid ha
  clear hcc ha
  clear e
  go_enter Try.func58, Try.ntmps58
  go_wp2_with fail
  refine (Hcc.out).mono ?_
  rintro e w1 ⟨rfl, hq⟩
  go_wp2
  go_ret
  exact ⟨rfl, hq⟩
theorem keep3 {wc W w' : World} {a b : Addr} {x y : Value} (h : W.cell? a = some x ∧ W.cell? b = some y ∧ Below wc.heap.size wc W) (hb : Below W.heap.size W w') : w'.cell? a = some x ∧ w'.cell? b = some y ∧ Below wc.heap.size wc w' :=
  ⟨keep_of_below hb _ _ h.1, keep_of_below hb _ _ h.2.1, h.2.2.trans (hb.mono h.2.2.size)⟩
theorem last3 {wc W : World} {a b : Addr} {x y : Value} (h : W.cell? a = some x ∧ W.cell? b = some y ∧ Below wc.heap.size wc W) : Below wc.heap.size wc W := h.2.2
theorem below_drew (w : World) : Below w.heap.size w w.drew := ⟨rfl, rfl, rfl, Nat.le_refl _, fun _ _ => rfl⟩
theorem box1 (w : World) (x : Value) (T : TypeId) : (w.alloc (.cells #[x] T)).cell? ⟨w.heap.size, 0, none⟩ = some x := by
  have h := heap_alloc_new w (.cells #[x] T)
  unfold World.cell?; rw [h]; rfl
theorem firstF_eq {points : List Int} {games : List (List Int)} {p : Nat} (h : ofDay points games p = true) (hp : p < points.length) : firstF points games p = (((endF games.length).filter (goodE points games p)).length : Int) := by
  rw [firstF, if_pos h, placesF, if_pos h, Int.toNat_natCast, places_zero points games p _ _ (by simp) (by omega) hp]
  have : (List.replicate points.length (0 : Int)).getD 0 0 = 0 := by rw [List.getD_eq_getElem?_getD, List.getElem?_replicate]; split <;> rfl
  rw [this, Int.zero_add]
theorem day_games {points : List Int} {games : List (List Int)} (h : dayOk points games = true) : dayGames points.length games [] = true := by
  simp only [dayOk, Bool.and_eq_true] at h
  exact h.2.2.2


set_option maxRecDepth 100000 in
set_option maxHeartbeats 8000000 in
theorem iNeedsWin_c (A B : Option Addr) (c d : Nat) (points : List Int) (games : List (List Int)) (k : Int) (w : World) (ha : Ints w A points) (hb : Rows w B games) (hm : points.length ≤ 1048576) :
    Calls Try.prog 36 #[.slice A points.length c, .slice B games.length d, .int .i64 k] w (Gives w (.bool (needF points games k))) := by
  generalize hR : needF points games k = R
  have HR := Lib.hid hR
  clear hR
  have hbx : Below w.heap.size w (w.alloc (.cells #[.int .i64 k] 3)) := (Below.refl _ _).alloc (Nat.le_refl _) _
  have b0 := box1 w (.int .i64 k) 3
  have ha1 := ha.keep (keep_of_below hbx)
  have hb1 := hb.keep (keep_of_below hbx)
  cases h1 : ofDay points games k
  · have HS : Hid (false = R) := Lib.hid (by rw [← HR.out]; simp [needF, h1])
    have H1 := Lib.hid h1
    have Hbx := Lib.hid hbx
    have Ha1 := Lib.hid ha1
    have Hb1 := Lib.hid hb1
    have Ha := Lib.hid ha
    have Hb := Lib.hid hb
    clear h1 hbx ha1 hb1 ha hb
    go_enter Try.func36, Try.ntmps36
    go_wp2_with fail
    refine (gives_v (isOfDay_c _ _ _ _ _ _ _ _ Ha1.out Hb1.out hm) (congrArg Value.bool H1.out)).mono ?_
    rintro e w1 ⟨rfl, hb1⟩
    go_wp2
    go_ret
    exact ⟨ret_bool HS.out, Hbx.out.trans (hb1.mono Hbx.out.size)⟩
  · obtain ⟨hdok, p, rfl, hp⟩ := ofDay_day h1
    obtain ⟨hday, hpt⟩ := day_of hdok
    have hdg := day_games hdok
    have HS : Hid (needFrom points games p false (endF games.length) = R) := Lib.hid (by rw [← HR.out]; simp [needF, h1])
    have hfew := hday.few
    have hn8 := hday.eight
    have hpi : (p : Int) < (points.length : Int) := by omega
    have hff := firstF_eq h1 hp
    have hcf := fun W (h : Ints W A points) (h' : Rows W B games) => iCountFirst_c A B c d points games (p : Int) W h h' hm
    have hod := fun W (h : Ints W A points) (h' : Rows W B games) => gives_v (isOfDay_c A B c d points games (p : Int) W h h' hm) (congrArg Value.bool h1)
    obtain ⟨n1, hn1⟩ : ∃ n, ((endF games.length).filter (goodE points games p)).length = n := ⟨_, rfl⟩
    simp only [hff, hn1] at hcf
    clear HR hff
    by_cases hn0 : n1 = 0
    · have hR2 : false = R := by rw [← HS.out, need_none points games p _ _ (by rw [hn1]; exact hn0)]
      subst hn0
      have HR2 := Lib.hid hR2
      have Hbx := Lib.hid hbx
      have Ha1 := Lib.hid ha1
      have Hb1 := Lib.hid hb1
      have Ha := Lib.hid ha
      have Hb := Lib.hid hb
      have Hcf := Lib.hid hcf
      have Hod := Lib.hid hod
      have Hday := Lib.hid hday
      have Hpt := Lib.hid hpt
      have Hdok := Lib.hid hdok
      have Hdg := Lib.hid hdg
      have H1 := Lib.hid h1
      have Hn1 := Lib.hid hn1
      clear hR2 hbx ha1 hb1 ha hb hcf hod hday hpt hdok hdg h1 hn1
      clear HS
      go_enter Try.func36, Try.ntmps36
      go_wp2_with fail
      refine (Hod.out _ Ha1.out Hb1.out).mono ?_
      rintro e w1 ⟨rfl, hb2⟩
      have hk := keep_of_below hb2
      have c0 := hk _ _ b0
      have Hb2 := Lib.hid (Hbx.out.trans (hb2.mono Hbx.out.size))
      have Ha2 := Lib.hid (Ha1.out.keep hk)
      have Hbb2 := Lib.hid (Hb1.out.keep hk)
      clear hb2 hk b0
      go_wp2_with fail
      refine (Hcf.out _ Ha2.out Hbb2.out).mono ?_
      rintro e w2 ⟨rfl, hb3⟩
      go_wp2
      go_ret
      exact ⟨ret_bool HR2.out, Hb2.out.trans (hb3.mono Hb2.out.size)⟩
    · have en : ((n1 : Int) == 0) = false := by simp; omega
      have hni : ¬ (n1 : Int) = 0 := by omega
      -- where the club plays
      have hix := fun W (h : Rows W B games) (h' : W.cell? ⟨w.heap.size, 0, none⟩ = some (.int .i64 (p : Int))) =>
        indexR_c 58 #[.pointer (some ⟨w.heap.size, 0, none⟩)] (hasC p) B games.length d games W (enters_of Try.func58 (by kernel_rfl) rfl)
          (fun W' a c' r hr hd hi => by
            obtain ⟨x, y, rfl, _⟩ := hday.game r hr
            exact need1_c p _ _ a c' W' hi (hd.keep _ _ h') (by simp)) h rfl (by omega)
      cases hany : games.any (hasC p)
      · have hz : ∀ (e : List Int), threeE points games p e = false := fun e => by
          have h2 := after_gain games e points [] hdg rfl hp
          rw [gain_none games e [] hdg hany] at h2
          rw [threeE, decide_eq_false_iff_not, h2]; omega
        have hR2 : false = R := by rw [← HS.out, need_never points games p _ (fun e _ => hz e)]
        have hneg := idxFrom_any (hasC p) games 0
        rw [hany] at hneg
        obtain ⟨q, hq⟩ : ∃ q, idxFrom (hasC p) 0 games = q := ⟨_, rfl⟩
        rw [hq] at hneg
        have hq0 : q < 0 := by simp at hneg; omega
        simp only [hq] at hix
        have HR2 := Lib.hid hR2
        have Hbx := Lib.hid hbx
        have Ha1 := Lib.hid ha1
        have Hb1 := Lib.hid hb1
        have Ha := Lib.hid ha
        have Hb := Lib.hid hb
        have Hcf := Lib.hid hcf
        have Hod := Lib.hid hod
        have Hday := Lib.hid hday
        have Hpt := Lib.hid hpt
        have Hdok := Lib.hid hdok
        have Hdg := Lib.hid hdg
        have H1 := Lib.hid h1
        have Hn1 := Lib.hid hn1
        have Hix := Lib.hid hix
        have Hq := Lib.hid hq
        clear hR2 hbx ha1 hb1 ha hb hcf hod hday hpt hdok hdg h1 hn1 hix hq
        clear HS hz hneg hany
        go_enter Try.func36, Try.ntmps36
        go_wp2_with fail
        refine (Hod.out _ Ha1.out Hb1.out).mono ?_
        rintro e w1 ⟨rfl, hb2⟩
        have hk := keep_of_below hb2
        have c0 := hk _ _ b0
        have Hb2 := Lib.hid (Hbx.out.trans (hb2.mono Hbx.out.size))
        have Ha2 := Lib.hid (Ha1.out.keep hk)
        have Hbb2 := Lib.hid (Hb1.out.keep hk)
        clear hb2 hk b0
        go_wp2_with fail
        refine (Hcf.out _ Ha2.out Hbb2.out).mono ?_
        rintro e w2 ⟨rfl, hb3⟩
        have hk := keep_of_below hb3
        have b0 := hk _ _ c0
        have Hb3 := Lib.hid (Hb2.out.trans (hb3.mono Hb2.out.size))
        have Hbb3 := Lib.hid (Hbb2.out.keep hk)
        clear hb3 hk c0
        go_wp2_with fail
        refine (Hix.out _ Hbb3.out b0).mono ?_
        rintro e w3 ⟨rfl, hq3⟩
        go_wp2
        go_ret
        exact ⟨ret_bool HR2.out, Hb3.out.trans (hq3.below _)⟩
      · obtain ⟨j, g, hj1, hj2, hj3, hj4⟩ := idxFrom_spec (hasC p) games 0 hany
        rw [Nat.zero_add] at hj1
        simp only [hj1] at hix
        have hjl : j < games.length := lt_of hj2
        have hji : (j : Int) < (games.length : Int) := by omega
        obtain ⟨x, y, hg, hxn, hyn, hxy⟩ := hday.game g (List.mem_of_getElem? hj2)
        obtain ⟨q, hq⟩ : ∃ q, idxFrom (fun z => decide ((p : Int) = z)) 0 g = q := ⟨_, rfl⟩
        have hqv : (g.getD 0 0 = (p : Int) ∧ q = 0) ∨ (¬ g.getD 0 0 = (p : Int) ∧ q = 1) := by
          subst hg
          simp only [hasC, List.mem_cons, List.not_mem_nil, or_false, decide_eq_true_eq] at hj3
          rw [← hq]
          simp only [List.getD_cons_zero, idxFrom]
          by_cases e1 : (p : Int) = (x : Int)
          · left; rw [if_pos (by simpa using e1)]; exact ⟨e1.symm, rfl⟩
          · right
            rcases hj3 with h | h
            · exact absurd h e1
            · rw [if_neg (by simpa using e1), if_pos (by simpa using h)]; exact ⟨fun hh => e1 hh.symm, rfl⟩
        have hq01 : 0 ≤ q ∧ q ≤ 1 := by omega
        have hwin : ∀ e ∈ endF games.length, threeE points games p e = true ↔ e.getD j 0 = 2 * q := fun e he => by
          obtain ⟨hel, hen⟩ := endF_row _ e he
          have h2 := after_gain games e points [] hdg rfl hp
          rw [gain_at games e [] j g hdg hel hj2 hj3 hj4] at h2
          rw [threeE, decide_eq_true_eq, h2]
          obtain ⟨v, hv⟩ := some_of (l := e) (k := j) (by omega)
          have hvg : e.getD j 0 = v := by rw [List.getD_eq_getElem?_getD, hv]; rfl
          obtain ⟨hv0, hv2⟩ := hen v (List.mem_of_getElem? hv)
          rw [hvg]
          rcases hqv with ⟨h3, h4⟩ | ⟨h3, h4⟩
          · rw [if_pos h3, h4]
            have := ptA_three hv0 hv2
            omega
          · rw [if_neg h3, h4]
            have := ptB_three hv0 hv2
            omega
        have HS2 : Hid (needI points games p j (2 * q) (endF games.length) = R) := Lib.hid (by rw [← HS.out, need_win points games p j (2 * q) _ false hwin (.inr (by rw [hn1]; exact hn0))])
        have hgl : g.length = 2 := by rw [hg]; rfl
        have hic := fun W a c' (h : Ints W a g) => index_c a c' g (p : Int) W h (by omega)
        simp only [hq, hgl] at hic
        obtain ⟨win, hwn⟩ : ∃ x, 2 * q = x := ⟨_, rfl⟩
        have hw01 : 0 ≤ win ∧ win ≤ 2 := by omega
        have hw0 := hw01.1
        have hw1 := hw01.2
        have ew : IntKind.i64.wrap (2 * q) = win := by rw [hwn]; exact IntWalk.i64_in _ (by omega)
        have ew2 : wrap64 (2 * q) = win := by rw [hwn]; exact IntWalk.wrap64_in _ (by omega)
        rw [hwn] at HS2
        have hq0 := hq01.1
        have hq1 := hq01.2
        obtain ⟨N, hN⟩ : ∃ N, (endF games.length).length = N := ⟨_, rfl⟩
        have hN81 : N ≤ 81 := by rw [← hN, endF_length]; exact Nat.le_trans (Nat.pow_le_pow_right (by decide) hfew) (by decide)
        have hec := fun W => endingsOf_c B games.length d W hfew
        have Hbx := Lib.hid hbx
        have Ha1 := Lib.hid ha1
        have Hb1 := Lib.hid hb1
        have Ha := Lib.hid ha
        have Hb := Lib.hid hb
        have Hcf := Lib.hid hcf
        have Hod := Lib.hid hod
        have Hday := Lib.hid hday
        have Hpt := Lib.hid hpt
        have Hdok := Lib.hid hdok
        have Hdg := Lib.hid hdg
        have H1 := Lib.hid h1
        have Hn1 := Lib.hid hn1
        have Hix := Lib.hid hix
        have Hq := Lib.hid hq
        have Hj1 := Lib.hid hj1
        have Hj2 := Lib.hid hj2
        have Hj3 := Lib.hid hj3
        have Hj4 := Lib.hid hj4
        have Hg := Lib.hid hg
        have Hqv := Lib.hid hqv
        have Hwin := Lib.hid hwin
        have Hgl := Lib.hid hgl
        have Hic := Lib.hid hic
        have Hwn := Lib.hid hwn
        have HN := Lib.hid hN
        have Hec := Lib.hid hec
        have Hany := Lib.hid hany
        clear hbx ha1 hb1 ha hb hcf hod hday hpt hdok hdg h1 hn1 hix hq hj1 hj2 hj3 hj4 hg hqv hwin hgl hic hwn hN hec hany
        clear HS hq01 hw01
        go_enter Try.func36, Try.ntmps36
        go_wp2_with fail
        refine (Hod.out _ Ha1.out Hb1.out).mono ?_
        rintro e w1 ⟨rfl, hb2⟩
        have hk := keep_of_below hb2
        have c0 := hk _ _ b0
        have Hb2 := Lib.hid (Hbx.out.trans (hb2.mono Hbx.out.size))
        have Ha2 := Lib.hid (Ha1.out.keep hk)
        have Hbb2 := Lib.hid (Hb1.out.keep hk)
        clear hb2 hk b0
        go_wp2_with fail
        refine (Hcf.out _ Ha2.out Hbb2.out).mono ?_
        rintro e w2 ⟨rfl, hb3⟩
        have hk := keep_of_below hb3
        have b0 := hk _ _ c0
        have Hb3 := Lib.hid (Hb2.out.trans (hb3.mono Hb2.out.size))
        have Hbb3 := Lib.hid (Hbb2.out.keep hk)
        clear hb3 hk c0
        go_wp2_with fail
        refine (Hix.out _ Hbb3.out b0).mono ?_
        rintro e w3 ⟨rfl, hq3⟩
        have c0 := hq3.keep _ _ b0
        obtain ⟨bd, ga, gc, rfl, _, _, hcg, hig⟩ := (Hbb3.out.keep hq3.keep) j g Hj2.out
        rw [Hgl.out] at hcg
        have Hb4 := Lib.hid (Hb3.out.trans (hq3.below _))
        have Hig := Lib.hid hig
        clear hq3 b0 hig
        go_wp2
        go_quiet ((go_at_call 56; exact quiet_call (Hic.out _ _ _ (Hig.out.drewN _))))
        have hpc0 := c0
        go_wp2_with fail
        refine (Hec.out _).mono ?_
        rintro e w5 ⟨EA, ec, rfl, hoe, hb5⟩
        rw [HN.out]
        have hb6 := (below_drewN w3.heap.size w3 _).trans hb5
        have Hb6 := Lib.hid (Hb4.out.trans (hb6.mono Hb4.out.size))
        have PC := Lib.hid (keep_of_below hb6 _ _ c0)
        have Hro := Lib.hid hoe.rows
        clear hoe hb5 hb6 c0 hpc0 hcg
        go_wp2
        go_loopw [38] (fun i wr => ∃ i0 : Nat, i0 ≤ N ∧ i = .int .i64 i0 ∧ needI points games p j win ((endF games.length).drop i0) = R ∧ Below w5.heap.size w5 wr) (fun i _ => N - (intOf i).toNat)
        case atStart => exact ⟨0, Nat.zero_le _, rfl, HS2.out, Below.refl _ _⟩
        case round =>
          clear HS2
          obtain ⟨i0, hi0, rfl, hS, hd⟩ := hrel
          have HS := Lib.hid hS
          have Hd := Lib.hid hd
          clear hS hd
          by_cases hlt : i0 < N
          · have hii : (i0 : Int) < (N : Int) := by omega
            obtain ⟨e, hx⟩ := some_of (l := endF games.length) (k := i0) (by rw [HN.out]; exact hlt)
            obtain ⟨hel, hen⟩ := endF_row _ e (List.mem_of_getElem? hx)
            obtain ⟨rd, ea0, ecap, rfl, _, _, hce, hie⟩ := (Hro.out.keep (keep_of_below Hd.out)) i0 e hx
            obtain ⟨v, hv⟩ := some_of (l := e) (k := j) (by omega)
            obtain ⟨ea, rfl, hcv⟩ := hie j v hv
            have hvg : e.getD j 0 = v := by rw [List.getD_eq_getElem?_getD, hv]; rfl
            have hpc := keep_of_below Hd.out _ _ PC.out
            have hdw := Hb6.out.trans (Hd.out.mono Hb6.out.size)
            have haw := Ha.out.keep (keep_of_below hdw)
            have hbw := Hb.out.keep (keep_of_below hdw)
            have hac := fun W (h : Below wr.heap.size wr W) => afterDay_c A (some bd) (some ea) c d ecap points games e W (haw.keep (keep_of_below h)) (hbw.keep (keep_of_below h)) (hie.keep (keep_of_below h)) Hpt.out Hday.out hel hen
            obtain ⟨D, hD⟩ : ∃ D, afterD points games e = D := ⟨_, rfl⟩
            have hDl : D.length = points.length := by rw [← hD, afterD_len]
            obtain ⟨b, hbk⟩ := some_of (l := D) (k := p) (by rw [hDl]; exact hp)
            have hDg : D.getD p 0 = b := by rw [List.getD_eq_getElem?_getD, hbk]; rfl
            obtain ⟨m, hmm⟩ : ∃ m, moreOf b 0 D = m := ⟨_, rfl⟩
            have hbt := fun C5 c5 W (h : Ints W C5 D) => better_c C5 c5 D p b W h hbk (by omega)
            simp only [hD, hel] at hac
            simp only [hmm] at hbt
            rw [hel] at hce
            have HS1 : Hid ((if m = 0 ∧ v ≠ win then false else needI points games p j win ((endF games.length).drop (i0 + 1))) = R) := Lib.hid (by
              have := HS.out
              rw [drop_of hx, needI, hvg] at this
              simpa only [goodE, hD, hDg, hmm, decide_eq_true_eq] using this)
            have Hx := Lib.hid hx
            have Hel := Lib.hid hel
            have Hen := Lib.hid hen
            have Hie := Lib.hid hie
            have Hv := Lib.hid hv
            have Hvg := Lib.hid hvg
            have Hdw := Lib.hid hdw
            have Haw := Lib.hid haw
            have Hbw := Lib.hid hbw
            have Hac := Lib.hid hac
            have HD := Lib.hid hD
            have HDl := Lib.hid hDl
            have Hbk := Lib.hid hbk
            have HDg := Lib.hid hDg
            have Hmm := Lib.hid hmm
            have Hbt := Lib.hid hbt
            clear hx hel hen hie hv hvg hdw haw hbw hac hD hDl hbk hDg hmm hbt
            clear HS
            by_cases hm0 : m = 0
            · have em : ((m : Int) == 0) = true := by simp [hm0]
              by_cases hvw : v = win
              · have ev : (v != win) = false := by simp [hvw]
                have HS3 : Hid (needI points games p j win ((endF games.length).drop (i0 + 1)) = R) := Lib.hid (by have := HS1.out; rwa [if_neg (by intro hh; exact hh.2 hvw)] at this)
                have Hm0 := Lib.hid hm0
                have Hvw := Lib.hid hvw
                clear hm0 hvw
                clear HS1
                go_wp2
                first | (go_region_held3 (fun W' => W'.cell? ⟨w.heap.size, 0, none⟩ = some (.int .i64 (p : Int)) ∧ W'.cell? (ea.add j) = some (.int .i64 v) ∧ Below wr.heap.size wr W')
                  (first | assumption | exact ⟨hpc, hcv, below_drew _⟩ | exact keep3 (by assumption) (by assumption))
                  (first
                    | (go_at_call 47; refine (Hac.out _ (last3 (by assumption))).mono ?_; rintro e' w5 ⟨C5, c5, rfl, ho5, hb5⟩; have Ho5 := Lib.hid ho5.ints; clear ho5)
                    | (go_at_call 54; refine (Hbt.out C5 c5 _ Ho5.out).mono ?_; rintro e' w6 ⟨rfl, hq6⟩; have hb6 := hq6.below w5.heap.size; clear hq6))) | fail
                all_goals
                  have hfin : Below wr.heap.size wr w6 := last3 (by assumption)
                  have Hfin := Lib.hid (Hd.out.trans (hfin.mono Hd.out.size))
                  go_wp2
                  go_roundw
                  case rel => exact ⟨i0 + 1, by omega, by go_num, HS3.out, Hfin.out⟩
                  case measure => simp [intOf]; omega
              · have ev : (v != win) = true := by simp [hvw]
                have HS3 : Hid (false = R) := Lib.hid (by have := HS1.out; rwa [if_pos ⟨hm0, hvw⟩] at this)
                have Hm0 := Lib.hid hm0
                have Hvw := Lib.hid hvw
                clear hm0 hvw
                clear HS1
                go_wp2
                first | (go_region_held3 (fun W' => W'.cell? ⟨w.heap.size, 0, none⟩ = some (.int .i64 (p : Int)) ∧ W'.cell? (ea.add j) = some (.int .i64 v) ∧ Below wr.heap.size wr W')
                  (first | assumption | exact ⟨hpc, hcv, below_drew _⟩ | exact keep3 (by assumption) (by assumption))
                  (first
                    | (go_at_call 47; refine (Hac.out _ (last3 (by assumption))).mono ?_; rintro e' w5 ⟨C5, c5, rfl, ho5, hb5⟩; have Ho5 := Lib.hid ho5.ints; clear ho5)
                    | (go_at_call 54; refine (Hbt.out C5 c5 _ Ho5.out).mono ?_; rintro e' w6 ⟨rfl, hq6⟩; have hb6 := hq6.below w5.heap.size; clear hq6))) | fail
                all_goals
                  have hfin : Below wr.heap.size wr w6 := last3 (by assumption)
                  have Hfin := Lib.hid (Hd.out.trans (hfin.mono Hd.out.size))
                  go_wp2
                  go_ret
                  exact ⟨ret_bool HS3.out, Hb6.out.trans (Hfin.out.mono Hb6.out.size)⟩
            · have em : ((m : Int) == 0) = false := by simp; omega
              have HS3 : Hid (needI points games p j win ((endF games.length).drop (i0 + 1)) = R) := Lib.hid (by have := HS1.out; rwa [if_neg (by intro hh; exact hm0 hh.1)] at this)
              have Hm0 := Lib.hid hm0
              clear hm0
              clear HS1
              go_wp2
              refine wp_region_held_drew (S := (fun W' => W'.cell? ⟨w.heap.size, 0, none⟩ = some (.int .i64 (p : Int)) ∧ W'.cell? (ea.add j) = some (.int .i64 v) ∧ Below wr.heap.size wr W')) (by kernel_rfl) ?_ (fun hHeld => ?_)
              · (first | assumption | exact ⟨hpc, hcv, below_drew _⟩ | exact keep3 (by assumption) (by assumption))
              refine wpAnyH_take (i := 0) (v := ?_) (by simp only [List.getElem?_toArray, List.getElem?_cons_succ, List.getElem?_cons_zero]; rfl) (by kernel_rfl) (by kernel_rfl) (by kernel_rfl) (by intro _ _ _ h; exact h) (Or.inl ⟨by rfl, ?_⟩) (by assumption) ?_
              rotate_left
              · (intro w hSw; (try dsimp only at hSw); go_simp; (try with_reducible rfl))
              (try simp only [Act.put, List.setIfInBounds_toArray, List.set_cons_zero, List.set_cons_succ])
              refine wpAnyH_take (i := 1) (v := ?_) (by simp only [List.getElem?_toArray, List.getElem?_cons_succ, List.getElem?_cons_zero]; rfl) (by kernel_rfl) (by kernel_rfl) (by kernel_rfl) (by intro _ _ _ h; exact h) (Or.inl ⟨by rfl, ?_⟩) (by assumption) ?_
              rotate_left
              · (intro w hSw; (try dsimp only at hSw); go_simp; (try with_reducible rfl))
              (try simp only [Act.put, List.setIfInBounds_toArray, List.set_cons_zero, List.set_cons_succ])
              refine wpAnyH_take (i := 2) (v := ?_) (by simp only [List.getElem?_toArray, List.getElem?_cons_succ, List.getElem?_cons_zero]; rfl) (by kernel_rfl) (by kernel_rfl) (by kernel_rfl) (by intro _ _ _ h; exact h) (Or.inl ⟨by rfl, ?_⟩) (by assumption) ?_
              rotate_left
              · (intro w hSw; (try dsimp only at hSw); go_simp; (try with_reducible rfl))
              (try simp only [Act.put, List.setIfInBounds_toArray, List.set_cons_zero, List.set_cons_succ])
              refine wpAnyH_take (i := 4) (v := ?_) (by simp only [List.getElem?_toArray, List.getElem?_cons_succ, List.getElem?_cons_zero]; rfl) (by kernel_rfl) (by kernel_rfl) (by kernel_rfl) (by intro _ _ _ h; exact h) (Or.inl ⟨by rfl, ?_⟩) (by assumption) ?_
              rotate_left
              · (intro w hSw; (try dsimp only at hSw); go_simp; (try with_reducible rfl))
              (try simp only [Act.put, List.setIfInBounds_toArray, List.set_cons_zero, List.set_cons_succ])
              refine wpAnyH_ready (rs := [3]) (by kernel_rfl) (by simp) ?_
              refine AllReadyH.cons (by simp only [List.getElem?_toArray, List.getElem?_cons_succ, List.getElem?_cons_zero]; rfl) (fun K hK => ?_) ?_
              · (go_simp; (go_at_call 47; refine (Hac.out _ (last3 (by assumption))).mono ?_; rintro e' w5 ⟨C5, c5, rfl, ho5, hb5⟩; have Ho5 := Lib.hid ho5.ints; clear ho5); go_wp2_with fail)
                refine hK.out _ _ ?_ (fun hHeld => ?_)
                · (first | assumption | exact ⟨hpc, hcv, below_drew _⟩ | exact keep3 (by assumption) (by assumption))
                clear hK K
                (try simp only [Act.put, List.setIfInBounds_toArray, List.set_cons_zero, List.set_cons_succ])
                refine wpAnyH_ready (rs := [5]) (by kernel_rfl) (by simp) ?_
                refine AllReadyH.cons (by simp only [List.getElem?_toArray, List.getElem?_cons_succ, List.getElem?_cons_zero]; rfl) (fun K hK => ?_) ?_
                · (go_simp; (go_at_call 54; refine (Hbt.out C5 c5 _ Ho5.out).mono ?_; rintro e' w6 ⟨rfl, hq6⟩; have hb6 := hq6.below w5.heap.size; clear hq6); go_wp2_with fail)
                  refine hK.out _ _ ?_ (fun hHeld => ?_)
                  · (first | assumption | exact ⟨hpc, hcv, below_drew _⟩ | exact keep3 (by assumption) (by assumption))
                  clear hK K
                  (try simp only [Act.put, List.setIfInBounds_toArray, List.set_cons_zero, List.set_cons_succ])
                  refine wpAnyH_take (i := 6) (v := ?_) (by simp only [List.getElem?_toArray, List.getElem?_cons_succ, List.getElem?_cons_zero]; rfl) (by kernel_rfl) (by kernel_rfl) (by kernel_rfl) (by intro _ _ _ h; exact h) (Or.inl ⟨by rfl, ?_⟩) (by assumption) ?_
                  rotate_left
                  · (intro w hSw; (try dsimp only at hSw); go_simp; (try with_reducible rfl))
                  (try simp only [Act.put, List.setIfInBounds_toArray, List.set_cons_zero, List.set_cons_succ])
                  refine wpAnyH_take (i := 7) (v := ?_) (by simp only [List.getElem?_toArray, List.getElem?_cons_succ, List.getElem?_cons_zero]; rfl) (by kernel_rfl) (by kernel_rfl) (by kernel_rfl) (by intro _ _ _ h; exact h) (Or.inl ⟨by rfl, ?_⟩) (by assumption) ?_
                  rotate_left
                  · (intro w hSw; (try dsimp only at hSw); go_simp; (try with_reducible rfl))
                  (try simp only [Act.put, List.setIfInBounds_toArray, List.set_cons_zero, List.set_cons_succ])
                  refine wpAnyH_take (i := 8) (v := undef) (by simp only [List.getElem?_toArray, List.getElem?_cons_succ, List.getElem?_cons_zero]; rfl) (by kernel_rfl) (by kernel_rfl) (by kernel_rfl) (by intro _ _ _ h; exact h) (Or.inr ⟨by rfl, rfl⟩) (by assumption) ?_
                  (try simp only [Act.put, List.setIfInBounds_toArray, List.set_cons_zero, List.set_cons_succ])
                  refine wpAnyH_take (i := 9) (v := undef) (by simp only [List.getElem?_toArray, List.getElem?_cons_succ, List.getElem?_cons_zero]; rfl) (by kernel_rfl) (by kernel_rfl) (by kernel_rfl) (by intro _ _ _ h; exact h) (Or.inr ⟨by rfl, rfl⟩) (by assumption) ?_
                  (try simp only [Act.put, List.setIfInBounds_toArray, List.set_cons_zero, List.set_cons_succ])
                  refine wpAnyH_take (i := 10) (v := undef) (by simp only [List.getElem?_toArray, List.getElem?_cons_succ, List.getElem?_cons_zero]; rfl) (by kernel_rfl) (by kernel_rfl) (by kernel_rfl) (by intro _ _ _ h; exact h) (Or.inr ⟨by rfl, rfl⟩) (by assumption) ?_
                  (try simp only [Act.put, List.setIfInBounds_toArray, List.set_cons_zero, List.set_cons_succ])
                  refine wpAnyH_take (i := 11) (v := undef) (by simp only [List.getElem?_toArray, List.getElem?_cons_succ, List.getElem?_cons_zero]; rfl) (by kernel_rfl) (by kernel_rfl) (by kernel_rfl) (by intro _ _ _ h; exact h) (Or.inr ⟨by rfl, rfl⟩) (by assumption) ?_
                  (try simp only [Act.put, List.setIfInBounds_toArray, List.set_cons_zero, List.set_cons_succ])
                  refine wpAnyH_take (i := 12) (v := undef) (by simp only [List.getElem?_toArray, List.getElem?_cons_succ, List.getElem?_cons_zero]; rfl) (by kernel_rfl) (by kernel_rfl) (by kernel_rfl) (by intro _ _ _ h; exact h) (Or.inr ⟨by rfl, rfl⟩) (by assumption) ?_
                  (try simp only [Act.put, List.setIfInBounds_toArray, List.set_cons_zero, List.set_cons_succ])
                  refine wpAnyH_take (i := 13) (v := undef) (by simp only [List.getElem?_toArray, List.getElem?_cons_succ, List.getElem?_cons_zero]; rfl) (by kernel_rfl) (by kernel_rfl) (by kernel_rfl) (by intro _ _ _ h; exact h) (Or.inr ⟨by rfl, rfl⟩) (by assumption) ?_
                  (try simp only [Act.put, List.setIfInBounds_toArray, List.set_cons_zero, List.set_cons_succ])
                  refine wpAnyH_take (i := 14) (v := ?_) (by simp only [List.getElem?_toArray, List.getElem?_cons_succ, List.getElem?_cons_zero]; rfl) (by kernel_rfl) (by kernel_rfl) (by kernel_rfl) (by intro _ _ _ h; exact h) (Or.inl ⟨by rfl, ?_⟩) (by assumption) ?_
                  rotate_left
                  · (intro w hSw; (try dsimp only at hSw); go_simp; (try with_reducible rfl))
                  (try simp only [Act.put, List.setIfInBounds_toArray, List.set_cons_zero, List.set_cons_succ])
                  refine wpAnyH_done (by kernel_rfl) ?_ _
                  have hfin : Below wr.heap.size wr w6 := last3 (by assumption)
                  have Hfin := Lib.hid (Hd.out.trans (hfin.mono Hd.out.size))
                  go_wp2
                  go_roundw
                  case rel => exact ⟨i0 + 1, by omega, by go_num, HS3.out, Hfin.out⟩
                  case measure => simp [intOf]; omega
                exact AllReadyH.nil
              exact AllReadyH.nil
          · obtain rfl : i0 = N := by omega
            have HS1 : Hid (true = R) := Lib.hid (by have := HS.out; rwa [drop_end (l := endF games.length) (by rw [HN.out]; exact Nat.le_refl _), needI] at this)
            go_wp2
            go_ret
            exact ⟨ret_bool HS1.out, Hb6.out.trans (Hd.out.mono Hb6.out.size)⟩
end Go.Proofs.Yteigcfcabmoghaa
