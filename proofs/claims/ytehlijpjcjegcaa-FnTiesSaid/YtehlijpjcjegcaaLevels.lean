/- Contracts: the levels of a list of numbers (LevelsOf, reference and program), the program's order (OrderBy). -/
import Derived.Test.YtehlijpjcjegcaaLevM
import Derived.Test.YtehlijpjcjegcaaTabI
namespace Go.Proofs.Ytehlijpjcjegcaa
set_option linter.unusedSimpArgs false
set_option linter.unusedVariables false
open Go.RowKit

def levF (l : List Int) : List (List Int) := levelsOf (keyOf l) l.length
def levTo (l : List Int) (k : Nat) : List (List Int) := levFold (keyOf l) [] ((orderF l).take k)
theorem levFold_snoc (key : Nat → Int) : ∀ (r : List Nat) (out : List (List Int)) (i : Nat), levFold key out (r ++ [i]) = levStep key (levFold key out r) i
  | [], _, _ => rfl
  | x :: r, out, i => by rw [List.cons_append, levFold, levFold, levFold_snoc key r]
theorem orderF_len (l : List Int) : (orderF l).length = l.length := insAll_len _ _
theorem levTo_ok (l : List Int) (k : Nat) : Levs (keyOf l) ((orderF l).take k) (levTo l k) := by
  have := levFold_ok (key := keyOf l) ((orderF l).take k) [] [] (Levs.nil _) (by rw [List.nil_append]; exact (insAll_sorted (keyOf l) l.length).sublist (List.take_sublist _ _))
  simpa [levTo] using this
theorem levTo_step (l : List Int) {k i : Nat} (h : (orderF l)[k]? = some i) : levTo l (k + 1) = levStep (keyOf l) (levTo l k) i := by
  rw [levTo, take_of h, levFold_snoc]; rfl
theorem levTo_end (l : List Int) : levTo l l.length = levF l := by
  rw [levTo, List.take_of_length_le (by rw [orderF_len]; exact Nat.le_refl _)]; rfl
theorem levTo_last {l : List Int} {k j : Nat} {lv : List Int} (h : (levTo l k)[j]? = some lv) : ∃ (a : Nat) (r : List Nat), lv = (a :: r).map (fun a : Nat => (a : Int)) ∧ a < l.length := by
  have L := levTo_ok l k
  have hm := List.mem_of_getElem? h
  obtain ⟨a, r, rfl, _⟩ := L.same lv hm
  refine ⟨a, r, rfl, ?_⟩
  have : (a : Int) ∈ (levTo l k).flatten := List.mem_flatten.2 ⟨_, hm, by simp⟩
  rw [L.join] at this
  obtain ⟨b, hb, e⟩ := List.mem_map.1 this
  have hba : b = a := by omega
  subst hba
  exact insAll_lt (List.mem_of_mem_take hb)
theorem levTo_small (l : List Int) (k : Nat) : (levTo l k).length ≤ k := by
  induction k with
  | zero => rw [levTo, List.take_zero]; simp [levFold]
  | succ k ih =>
    by_cases hk : k < (orderF l).length
    · obtain ⟨i, hi⟩ := some_of hk
      rw [levTo_step l hi, levStep]
      split
      · rw [List.length_set]; omega
      · rw [List.length_append, List.length_singleton]; omega
    · have : levTo l (k + 1) = levTo l k := by rw [levTo, levTo, List.take_of_length_le (by omega), List.take_of_length_le (by omega)]
      rw [this]; omega
theorem lev_len {l : List Int} {k j : Nat} {lv : List Int} (h : (levTo l k)[j]? = some lv) : lv.length ≤ l.length := by
  have L := levTo_ok l k
  have h1 := (List.sublist_flatten_of_mem (List.mem_of_getElem? h)).length_le
  rw [L.join, List.length_map] at h1
  exact Nat.le_trans h1 (Nat.le_trans (List.length_take_le' _ _) (by rw [orderF_len]; exact Nat.le_refl _))
def GivesR (w : World) (xss : List (List Int)) (e : Ending) (w' : World) : Prop := ∃ B d, e = .returned (.slice B xss.length d) ∧ Rows w' B xss ∧ Below w.heap.size w w'

set_option maxRecDepth 100000 in
set_option maxHeartbeats 8000000 in
theorem sLevelsOf_c (A : Option Addr) (c : Nat) (l : List Int) (w : World) (ha : Ints w A l) (hn1 : 1 ≤ l.length) (hl19 : l.length ≤ 19) :
    Calls Try.prog 67 #[.slice A l.length c] w (GivesR w (levF l)) := by
  obtain ⟨R, hR⟩ : ∃ R, levF l = R := ⟨_, rfl⟩
  rw [hR]
  have hoc := fun W (h : Ints W A l) => l09Order_c A c l W h (by omega)
  obtain ⟨O, hO⟩ : ∃ O, orderF l = O := ⟨_, rfl⟩
  have hOl : O.length = l.length := by rw [← hO, orderF_len]
  have hOn : ∀ i ∈ O, i < l.length := fun i hi => by rw [← hO] at hi; exact insAll_lt hi
  simp only [hO] at hoc
  obtain ⟨n, hn⟩ : ∃ n, l.length = n := ⟨_, rfl⟩
  rw [hn] at hn1 hl19 hoc hOl hOn ⊢
  have hnl : (nums O).length = n := by rw [nums, List.length_map, hOl]
  obtain ⟨K0, hK0⟩ : ∃ K0, w.heap.size = K0 := ⟨_, rfl⟩
  have hk0 := new_empty 33 w.heap.size w (Nat.le_refl _)
  have hb0 : Below w.heap.size w (w.alloc (.cells #[] 33)) := (Below.refl _ _).alloc (Nat.le_refl _) _
  have hsz : (w.alloc (.cells #[] 33)).heap.size = K0 + 1 := by rw [← hK0]; simp
  have Ha := Lib.hid ha
  have Hoc := Lib.hid hoc
  have HO := Lib.hid hO
  have HOl := Lib.hid hOl
  have HOn := Lib.hid hOn
  have Hn := Lib.hid hn
  have Hnl := Lib.hid hnl
  have HR := Lib.hid hR
  have Hk0 := Lib.hid hk0
  have Hb0 := Lib.hid hb0
  have Hsz := Lib.hid hsz
  clear ha hoc hO hOl hOn hn hnl hR hk0 hb0 hsz
  go_enter Try.func67, Try.ntmps67
  go_wp2_with fail
  refine (Hoc.out _ (Ha.out.keep (keep_of_below Hb0.out))).mono ?_
  rintro e w4 ⟨OA, oc, rfl, ho4, hb4⟩
  rw [Hnl.out]
  simp only [hK0]
  have hz4 := hb4.size
  rw [Hsz.out] at ho4 hz4
  rw [hK0] at Hk0 Hb0
  obtain ⟨Z, hZ⟩ : ∃ Z, w4.heap.size = Z := ⟨_, rfl⟩
  have hbw : Below w.heap.size w w4 := by rw [hK0]; exact Hb0.out.trans (hb4.mono (by rw [Hsz.out]; omega))
  have hl0 : LevOwn K0 Z w4 w4 (some ⟨K0, 0, none⟩) 0 (levTo l 0) := by
    have h1 := (Hk0.out.below hb4).wide (Nat.le_refl _) hb4.size
    refine ⟨⟨[], h1, Inner.nil _ _ _ _⟩, fun a e => by injection e with e; subst e; exact .inl rfl, Only.refl _ _ _, by omega, hZ⟩
  rw [hZ] at ho4
  have hoi : ∀ wr, Only K0 (K0 + 1) w4 wr → Ints wr OA (nums O) := fun wr h => (ho4.only h (by rw [hZ]; exact Nat.le_refl _) (.inr (Nat.le_refl _))).ints
  have hwK : w.heap.size ≤ K0 := by omega
  have hli : ∀ wr, Only K0 (K0 + 1) w4 wr → Ints wr A l := fun wr h => ints_only (Ha.out) (keep_of_below hbw) hwK h
  have Hl0 := Lib.hid hl0
  have Hoi := Lib.hid hoi
  have Hli := Lib.hid hli
  have Hbw := Lib.hid hbw
  clear hl0 hoi hli hbw
  clear ho4 hb4 hz4 Hk0 Hb0 Hsz Hoc hK0
  go_wp2
  go_loopw [3, 14] (fun v s wr => ∃ (k : Nat) (A1 : Option Addr) (c1 : Nat), k ≤ n ∧ s = .int .i64 k ∧ v = .slice A1 (levTo l k).length c1 ∧ LevOwn K0 Z w4 wr A1 c1 (levTo l k)) (fun _ s _ => n - (intOf s).toNat)
  case atStart => exact ⟨0, _, _, Nat.zero_le _, rfl, rfl, Hl0.out⟩
  case round =>
    clear Hl0
    obtain ⟨k, A1, c1, hk, rfl, rfl, hl⟩ := hrel
    by_cases hlt : k < n
    · have hki : (k : Int) < (n : Int) := by omega
      obtain ⟨i, hi⟩ := some_of (l := O) (k := k) (by rw [HOl.out]; exact hlt)
      have hin : i < n := HOn.out i (List.mem_of_getElem? hi)
      have hini : (i : Int) < (n : Int) := by omega
      obtain ⟨od, rfl, co⟩ := Hoi.out wr hl.only k (i : Int) (nums_at hi)
      obtain ⟨x, hx⟩ := some_of (l := l) (k := i) (by rw [Hn.out]; exact hin)
      have hkx : keyOf l i = x := by rw [keyOf, List.getD_eq_getElem?_getD, hx]; rfl
      obtain ⟨ld, rfl, cl⟩ := Hli.out wr hl.only i x hx
      have hstep := levTo_step l (k := k) (i := i) (by rw [HO.out]; exact hi)
      obtain ⟨X, hX⟩ : ∃ X, levTo l k = X := ⟨_, rfl⟩
      have hsm := levTo_small l k
      have hXl := fun j lv (h : X[j]? = some lv) => levTo_last (l := l) (k := k) (by rw [hX]; exact h)
      have hXn := fun j lv (h : X[j]? = some lv) => lev_len (l := l) (k := k) (by rw [hX]; exact h)
      rw [hX] at hl hstep hsm ⊢
      have o1 : ∀ y : Past wr, y.now.cell? (od.add k) = some (.int .i64 (i : Int)) := Past.cell co
      have o2 : ∀ y : Past wr, y.now.cell? (ld.add i) = some (.int .i64 x) := Past.cell cl
      by_cases hM : X.length = 0
      · have hX0 : X = [] := List.eq_nil_of_length_eq_zero hM
        subst hX0
        have hst2 : levTo l (k + 1) = [[(i : Int)]] := by rw [hstep, levStep, if_neg (by simp)]; rfl
        have Hl := Lib.hid hl
        have Hst2 := Lib.hid hst2
        have Hstep := Lib.hid hstep
        have Hi := Lib.hid hi
        have Hx := Lib.hid hx
        have Hkx := Lib.hid hkx
        have HX := Lib.hid hX
        have HXl := Lib.hid hXl
        have HXn := Lib.hid hXn
        have HM := Lib.hid hM
        clear hl hst2 hstep hi hx hkx hX hXl hXn hM
        rw [List.length_nil]
        go_wp2
        refine wp_region_past (by kernel_rfl) (by kernel_rfl) ?_
        repeat (go_big_quiet_step ((fail)))
        refine wpQuiet_nil ?_
        intro wx hwx
        obtain ⟨⟨wy, hbx⟩, hw⟩ := hwx
        change wx = wy at hw
        subst hw
        have hlx := Hl.out.below hbx
        have hnl : (([] : List (List Int)).length) = 0 := rfl
        have Hlx := Lib.hid hlx
        clear hlx
        clear hbx o1 o2 co cl
        go_wp2_with (at_builtin; refine wpList_lev rfl (.tmp 51) (.tmp 54) rfl Hlx.out (i : Int) ?_ 0 ?_ rfl rfl ?_; omega; omega; intro g3 c3 w6 hl7; have Hl7 := Lib.hid hl7; clear hl7)
        go_roundw
        case rel => exact ⟨k + 1, some ⟨g3, 0, none⟩, c3, by omega, by go_num, by rw [Hst2.out]; rfl, by rw [Hst2.out]; exact Hl7.out⟩
        case measure => simp [intOf]; omega
      · obtain ⟨M, hM1⟩ : ∃ M, X.length = M + 1 := ⟨X.length - 1, by omega⟩
        obtain ⟨lv, hlv⟩ := some_of (l := X) (k := M) (by omega)
        obtain ⟨a, r, hlve, han⟩ := hXl M lv hlv
        have hln := hXn M lv hlv
        have hv0 : lv[0]? = some (a : Int) := by rw [hlve]; rfl
        obtain ⟨z, hz⟩ := some_of (l := l) (k := a) han
        have hkz : keyOf l a = z := by rw [keyOf, List.getD_eq_getElem?_getD, hz]; rfl
        have han2 : a < n := by rw [← Hn.out]; exact han
        have hani : (a : Int) < (n : Int) := by omega
        obtain ⟨ld2, e2, cz⟩ := Hli.out wr hl.only a z hz
        obtain rfl : ld = ld2 := by injection e2
        obtain ⟨G, a0, d0, rfl, ch, hro, hld, hcM⟩ := hl.at_ hlv
        obtain ⟨g0, e3, _, _, ca, _⟩ := ownr hro hv0
        subst e3
        have hX1 : X.length - 1 = M := by omega
        have hXg : X.getD M [] = lv := by rw [List.getD_eq_getElem?_getD, hlv]; rfl
        have hXh : ((X.getD M []).getD 0 0).toNat = a := by rw [hXg, hlve, head_toNat]
        have hlpos : 0 < lv.length := by rw [hlve]; simp
        have hl19 : lv.length ≤ 19 := by rw [Hn.out] at hln; omega
        have wM : IntKind.i64.wrap ((M : Int) + 1 - 1) = (M : Int) := by rw [IntWalk.i64_in _ (by omega)]; omega
        have o3 : ∀ y : Past wr, y.now.cell? ⟨G, M, none⟩ = some (.slice (some ⟨g0, 0, none⟩) lv.length d0) := Past.cell ch
        have o4 : ∀ y : Past wr, y.now.cell? ⟨g0, 0, none⟩ = some (.int .i64 (a : Int)) := Past.cell ca
        have o5 : ∀ y : Past wr, y.now.cell? (ld.add a) = some (.int .i64 z) := Past.cell cz
        have hdM : decide ((0 : Int) < (M : Int) + 1) = true := by rw [decide_eq_true_iff]; omega
        have hdM2 : decide ((0 : Int) ≤ (M : Int)) = true := by rw [decide_eq_true_iff]; omega
        have hMc : M < c1 := by omega
        have hMn : M ≤ 19 := by omega
        clear e2
        rw [hM1]
        have Hl := Lib.hid hl
        have Hstep := Lib.hid hstep
        have Hi := Lib.hid hi
        have Hx := Lib.hid hx
        have Hkx := Lib.hid hkx
        have HX := Lib.hid hX
        have HXl := Lib.hid hXl
        have HXn := Lib.hid hXn
        have HM := Lib.hid hM
        have HM1 := Lib.hid hM1
        have Hlv := Lib.hid hlv
        have Hlve := Lib.hid hlve
        have Hv0 := Lib.hid hv0
        have Hz := Lib.hid hz
        have Hkz := Lib.hid hkz
        have HX1 := Lib.hid hX1
        have HXg := Lib.hid hXg
        have HXh := Lib.hid hXh
        have Hro := Lib.hid hro
        have Hln := Lib.hid hln
        clear hl hstep hi hx hkx hX hXl hXn hM hM1 hlv hlve hv0 hz hkz hX1 hXg hXh hro hln
        go_wp2
        refine wp_region_past (by kernel_rfl) (by kernel_rfl) ?_
        repeat (go_big_quiet_step ((fail)))
        refine wpQuiet_nil ?_
        intro wx hwx
        obtain ⟨⟨wy, hbx⟩, hw⟩ := hwx
        change wx = wy at hw
        subst hw
        have hlx := Hl.out.below hbx
        have hZx := hlx.ge
        have cr := keep_of_below hbx _ _ ch
        have hrow := (Hro.out.below hbx).wide (Nat.le_refl Z) hbx.size
        have Hlx := Lib.hid hlx
        have Hrow := Lib.hid hrow
        clear hlx hrow
        clear hbx o1 o2 o3 o4 o5 co cl cz ch ca
        by_cases hzx : z = x
        · have e1 : (z == x) = true := by simp [hzx]
          have hst2 : levTo l (k + 1) = X.set M (lv ++ [(i : Int)]) := by rw [Hstep.out, levStep, HX1.out, HXh.out, Hkz.out, Hkx.out, HXg.out, if_pos ⟨HM.out, hzx⟩]
          have hsl : (X.set M (lv ++ [(i : Int)])).length = M + 1 := by rw [List.length_set, HM1.out]
          have Hzx := Lib.hid hzx
          have Hst2 := Lib.hid hst2
          have Hsl := Lib.hid hsl
          clear hzx hst2 hsl
          go_wp2_with (at_builtin; refine wpList_app1l rfl (.tmp 46) (.tmp 48) 33 rfl 3 (.int .i64 0) 8 Try.underlying33 info_int rfl wx Z (some ⟨g0, 0, none⟩) d0 (lv.map (.int .i64)) Hrow.out ?_ (.int .i64 (i : Int)) rfl ?_ (by decide) lv.length ?_ rfl rfl ?_; exact hZx; (rw [List.length_map]; omega); (rw [List.length_map]); intro g3 c3 w6 ho6 hg6 hg6' hl6; (have hsn : lv.map (Value.int .i64) ++ [Value.int .i64 (i : Int)] = (lv ++ [(i : Int)]).map (.int .i64) := by rw [List.map_append]; rfl); rw [hsn] at ho6; (obtain ⟨⟨y6, cy6⟩, fy6, hl7⟩ := Hlx.out.grow Hlv.out cr hg6 ho6 hl6); have Hl7 := Lib.hid hl7; clear hsn ho6 hg6 hg6' hl6 hl7)
          go_wp2
          go_roundw
          case rel => exact ⟨k + 1, some ⟨G, 0, none⟩, c1, by omega, by go_num, by rw [Hst2.out, Hsl.out], by rw [Hst2.out]; exact Hl7.out⟩
          case measure => simp [intOf]; omega
        · have e1 : (z == x) = false := by simpa using hzx
          have hst2 : levTo l (k + 1) = X ++ [[(i : Int)]] := by rw [Hstep.out, levStep, HX1.out, HXh.out, Hkz.out, Hkx.out, if_neg (fun h => hzx h.2)]
          have hsl : (X ++ [[(i : Int)]]).length = M + 1 + 1 := by rw [List.length_append, HM1.out]; rfl
          have hM2 : M + 1 = X.length := HM1.out.symm
          have HM2 := Lib.hid hM2
          have Hzx := Lib.hid hzx
          have Hst2 := Lib.hid hst2
          have Hsl := Lib.hid hsl
          clear hzx hst2 hsl
          clear hM2 cr
          go_wp2_with (at_builtin; refine wpList_lev rfl (.tmp 51) (.tmp 54) rfl Hlx.out (i : Int) ?_ (M + 1) ?_ rfl rfl ?_; (rw [HM1.out]; omega); exact HM2.out; intro g3 c3 w6 hl7; have Hl7 := Lib.hid hl7; clear hl7)
          go_roundw
          case rel => exact ⟨k + 1, some ⟨g3, 0, none⟩, c3, by omega, by go_num, by rw [Hst2.out, Hsl.out], by rw [Hst2.out]; exact Hl7.out⟩
          case measure => simp [intOf]; omega
    · obtain rfl : k = n := by omega
      have hfin : levTo l k = R := by rw [← HR.out, ← levTo_end, Hn.out]
      rw [hfin] at hl ⊢
      have hrows := hl.rows
      have hbl := Hbw.out.trans (below_of_only hl.only hwK Hbw.out.size)
      have Hrows := Lib.hid hrows
      have Hbl := Lib.hid hbl
      have Hl := Lib.hid hl
      have Hfin := Lib.hid hfin
      clear hrows hbl hl hfin
      go_wp2
      go_ret
      exact ⟨A1, c1, rfl, Hrows.out, Hbl.out⟩

set_option maxHeartbeats 1000000 in
theorem orderBy1_c (l : List Int) (a b bp : Nat) (A : Option Addr) (n c : Nat) (W : World) (ha : a < n) (hb : b < n) (hn : l.length = n)
    (y0 : W.cell? ⟨bp, 0, none⟩ = some (.slice A n c)) (hp : Ints W A l) :
    Calls Try.prog 100 #[.int .i64 (a : Int), .int .i64 (b : Int), .pointer (some ⟨bp, 0, none⟩)] W (Gives W (.int .i64 (cmpI (keyOf l b) (keyOf l a)))) := by
  obtain ⟨x, hx⟩ := some_of (l := l) (k := a) (by omega)
  obtain ⟨y, hy⟩ := some_of (l := l) (k := b) (by omega)
  have kx : keyOf l a = x := by rw [keyOf, List.getD_eq_getElem?_getD, hx]; rfl
  have ky : keyOf l b = y := by rw [keyOf, List.getD_eq_getElem?_getD, hy]; rfl
  rw [kx, ky]
  obtain ⟨ad, rfl, cx⟩ := hp a x hx
  obtain ⟨ad2, e, cy⟩ := hp b y hy
  obtain rfl : ad = ad2 := by injection e
  have hai : (a : Int) < (n : Int) := by omega
  have hbi : (b : Int) < (n : Int) := by omega
  have hcm := fun W => compare_c y x W
  obtain ⟨v, hv⟩ : ∃ v, cmpI y x = v := ⟨_, rfl⟩
  simp only [hv] at hcm ⊢
  have o1 : ∀ q : Past W, q.now.cell? ⟨bp, 0, none⟩ = some (.slice (some ad) n c) := Past.cell y0
  have o2 : ∀ q : Past W, q.now.cell? (ad.add a) = some (.int .i64 x) := Past.cell cx
  have o3 : ∀ q : Past W, q.now.cell? (ad.add b) = some (.int .i64 y) := Past.cell cy
  have Hcm := Lib.hid hcm
  have Hx := Lib.hid hx
  have Hy := Lib.hid hy
  have Kx := Lib.hid kx
  have Ky := Lib.hid ky
  have Hp := Lib.hid hp
  have Hv := Lib.hid hv
  clear hcm hx hy kx ky hp hv
  clear e cx cy y0
  go_enter Try.func100, Try.ntmps100
  go_wp2
  refine wp_region_past (by kernel_rfl) (by kernel_rfl) ?_
  repeat (go_big_quiet_step ((go_at_call 76; exact past_quiet (Hcm.out _))))
  refine wpQuiet_nil ?_
  intro wx hwx
  obtain ⟨⟨wy, hbx⟩, hw⟩ := hwx
  change wx = wy at hw
  subst hw
  go_wp2
  go_ret
  exact ⟨rfl, hbx⟩
theorem cmpI_neg (x y : Int) : decide (cmpI x y < 0) = decide (x < y) := by
  rw [decide_eq_decide]; unfold cmpI; split <;> (try split) <;> omega

set_option maxHeartbeats 2000000 in
theorem orderBy_c (A : Option Addr) (c : Nat) (l : List Int) (w : World) (ha : Ints w A l) (hn1 : 1 ≤ l.length) (hl19 : l.length ≤ 19) :
    Calls Try.prog 92 #[.slice A l.length c] w (GivesI 3 w (nums (orderF l))) := by
  obtain ⟨n, hn⟩ : ∃ n, l.length = n := ⟨_, rfl⟩
  rw [hn] at hn1 hl19 ⊢
  have hRl : (nums (orderF l)).length = n := by rw [nums, List.length_map, orderF_len, hn]
  have hro : orderF l = insAll (byKey (keyOf l)) n := by rw [orderF, hn]
  have hmf : ∀ (fn : Fn) (first cap : Array Value) (w : World), (Instr.makeFunc fn first cap).run Try.prog w = .ok (.func fn first cap) w := fun _ _ _ _ => rfl
  have eg := enters_of Try.func100 (by kernel_rfl) rfl
  have hb0 : Below w.heap.size w (w.alloc (.cells #[.slice A n c] 33)) := (Below.refl _ _).alloc (Nat.le_refl _) _
  have y0 : (w.alloc (.cells #[.slice A n c] 33)).cell? ⟨w.heap.size, 0, none⟩ = some (.slice A n c) := by simp
  have hsz : (w.alloc (.cells #[.slice A n c] 33)).heap.size = w.heap.size + 1 := by simp
  obtain ⟨bp, hbp⟩ : ∃ bp, w.heap.size = bp := ⟨_, rfl⟩
  obtain ⟨w3, hw3⟩ : ∃ w3, w.alloc (.cells #[.slice A n c] 33) = w3 := ⟨_, rfl⟩
  rw [hw3] at hb0
  rw [hw3, hbp] at y0 hsz
  have hic := indices_c n w3 (by omega)
  rw [hsz] at hic
  have h40 : ¬ (40 : Int) < (n : Int) := by omega
  have Hw3 := Lib.hid hw3
  have Hbp := Lib.hid hbp
  clear hw3 hbp
  have Ha := Lib.hid ha
  have Hn := Lib.hid hn
  have HRl := Lib.hid hRl
  have Hro := Lib.hid hro
  have Eg := Lib.hid eg
  have Hb0 := Lib.hid hb0
  have Hic := Lib.hid hic
  have Hsz := Lib.hid hsz
  clear ha hn hRl hro eg hb0 hic hsz
  go_enter Try.func92, Try.ntmps92
  go_wp2_with (go_at_call 88; rw [Hw3.out]; refine Hic.out.mono ?_; rintro e w4 ⟨rfl, ho4, hb4, hz4⟩; (have f2 := keep_of_below (show Below w3.heap.size w3 w4 by rw [Hsz.out]; exact hb4) _ _ y0); have Ho4 := Lib.hid ho4; (have Hb4 : Hid (Below w3.heap.size w3 w4) := Lib.hid (by rw [Hsz.out]; exact hb4)); clear ho4 hb4 y0; simp only [Hbp.out])
  have hbw4 := Hb0.out.trans (Hb4.out.mono Hb0.out.size)
  have hwb : w.heap.size < bp + 1 := by have := Hbp.out; omega
  have hcg : CmpG 100 #[.pointer (some ⟨bp, 0, none⟩)] (fun a b => cmpI (keyOf l b) (keyOf l a)) n (bp + 1) w4 := fun W a b ha' hb' ho =>
    orderBy1_c l a b bp A n c W ha' hb' Hn.out (cell_only ho f2 (.inl (by show bp < bp + 1; omega))) (ints_only Ha.out (keep_of_below hbw4) (by omega) ho)
  have hso := sortStable_c 100 #[.pointer (some ⟨bp, 0, none⟩)] (fun a b => cmpI (keyOf l b) (keyOf l a)) (byKey (keyOf l)) n (bp + 1) n w4 Eg.out (fun a b _ _ => by rw [cmpI_neg]; rfl) hcg hz4 Ho4.out hn1 (by omega)
  have Hso := Lib.hid hso
  have Hbw4 := Lib.hid hbw4
  clear hso hbw4
  clear hcg f2
  refine Hso.out.mono ?_
  rintro e w5 ⟨rfl, ho5, hon5⟩
  have hb5 := Hbw4.out.trans (below_of_only hon5 (by omega) Hbw4.out.size)
  have ho5w := ho5.wide (lo' := w.heap.size) (hi' := w5.heap.size) (by omega) (by have := hon5.size; omega)
  rw [← Hro.out] at ho5w
  have Hb5 := Lib.hid hb5
  have Ho5w := Lib.hid ho5w
  clear hb5 ho5w
  clear ho5 hon5
  go_wp2
  go_ret
  exact ⟨_, _, by rw [HRl.out]; rfl, Ho5w.out, Hb5.out⟩

set_option maxRecDepth 100000 in
set_option maxHeartbeats 8000000 in
theorem iLevelsOf_c (A : Option Addr) (c : Nat) (l : List Int) (w : World) (ha : Ints w A l) (hn1 : 1 ≤ l.length) (hl19 : l.length ≤ 19) :
    Calls Try.prog 68 #[.slice A l.length c] w (GivesR w (levF l)) := by
  obtain ⟨R, hR⟩ : ∃ R, levF l = R := ⟨_, rfl⟩
  rw [hR]
  have hoc := orderBy_c A c l w ha hn1 hl19
  obtain ⟨O, hO⟩ : ∃ O, orderF l = O := ⟨_, rfl⟩
  have hOl : O.length = l.length := by rw [← hO, orderF_len]
  have hOn : ∀ i ∈ O, i < l.length := fun i hi => by rw [← hO] at hi; exact insAll_lt hi
  simp only [hO] at hoc
  obtain ⟨n, hn⟩ : ∃ n, l.length = n := ⟨_, rfl⟩
  rw [hn] at hn1 hl19 hoc hOl hOn ⊢
  have hnl : (nums O).length = n := by rw [nums, List.length_map, hOl]
  have Ha := Lib.hid ha
  have Hoc := Lib.hid hoc
  have HO := Lib.hid hO
  have HOl := Lib.hid hOl
  have HOn := Lib.hid hOn
  have Hn := Lib.hid hn
  have Hnl := Lib.hid hnl
  have HR := Lib.hid hR
  clear ha hoc hO hOl hOn hn hnl hR
  go_enter Try.func68, Try.ntmps68
  go_wp2_with fail
  refine Hoc.out.mono ?_
  rintro e w4 ⟨OA, oc, rfl, ho4, hb4⟩
  rw [Hnl.out]
  obtain ⟨Z, hZ⟩ : ∃ Z, w4.heap.size = Z := ⟨_, rfl⟩
  obtain ⟨K0, hK0⟩ : ∃ K0, K0 = Z := ⟨_, rfl⟩
  have hbw : Below w.heap.size w w4 := hb4
  have hl0 : LevOwn K0 Z w4 w4 none 0 (levTo l 0) :=
    ⟨⟨[], Own.nil _ _ _ _, Inner.nil _ _ _ _⟩, (fun a e => by cases e), Only.refl _ _ _, by omega, hZ⟩
  rw [hZ] at ho4
  have hoi : ∀ wr, Only K0 (K0 + 1) w4 wr → Ints wr OA (nums O) := fun wr h => (ho4.only h (by rw [hZ]; exact Nat.le_refl _) (.inl (by omega))).ints
  have hwK : w.heap.size ≤ K0 := by have := hb4.size; omega
  have hli : ∀ wr, Only K0 (K0 + 1) w4 wr → Ints wr A l := fun wr h => ints_only (Ha.out) (keep_of_below hbw) hwK h
  have Hl0 := Lib.hid hl0
  have Hoi := Lib.hid hoi
  have Hli := Lib.hid hli
  have Hbw := Lib.hid hbw
  have HK0 := Lib.hid hK0
  clear hl0 hoi hli hbw hK0
  clear ho4 hb4 Hoc
  go_wp2
  go_loopw [3, 10] (fun v s wr => ∃ (k : Nat) (A1 : Option Addr) (c1 : Nat), k ≤ n ∧ s = .int .i64 k ∧ v = .slice A1 (levTo l k).length c1 ∧ LevOwn K0 Z w4 wr A1 c1 (levTo l k)) (fun _ s _ => n - (intOf s).toNat)
  case atStart => exact ⟨0, _, _, Nat.zero_le _, rfl, rfl, Hl0.out⟩
  case round =>
    clear Hl0
    obtain ⟨k, A1, c1, hk, rfl, rfl, hl⟩ := hrel
    by_cases hlt : k < n
    · have hki : (k : Int) < (n : Int) := by omega
      obtain ⟨i, hi⟩ := some_of (l := O) (k := k) (by rw [HOl.out]; exact hlt)
      have hin : i < n := HOn.out i (List.mem_of_getElem? hi)
      have hini : (i : Int) < (n : Int) := by omega
      obtain ⟨od, rfl, co⟩ := Hoi.out wr hl.only k (i : Int) (nums_at hi)
      obtain ⟨x, hx⟩ := some_of (l := l) (k := i) (by rw [Hn.out]; exact hin)
      have hkx : keyOf l i = x := by rw [keyOf, List.getD_eq_getElem?_getD, hx]; rfl
      obtain ⟨ld, rfl, cl⟩ := Hli.out wr hl.only i x hx
      have hstep := levTo_step l (k := k) (i := i) (by rw [HO.out]; exact hi)
      obtain ⟨X, hX⟩ : ∃ X, levTo l k = X := ⟨_, rfl⟩
      have hsm := levTo_small l k
      have hXl := fun j lv (h : X[j]? = some lv) => levTo_last (l := l) (k := k) (by rw [hX]; exact h)
      have hXn := fun j lv (h : X[j]? = some lv) => lev_len (l := l) (k := k) (by rw [hX]; exact h)
      rw [hX] at hl hstep hsm ⊢
      have o1 : ∀ y : Past wr, y.now.cell? (od.add k) = some (.int .i64 (i : Int)) := Past.cell co
      have o2 : ∀ y : Past wr, y.now.cell? (ld.add i) = some (.int .i64 x) := Past.cell cl
      by_cases hM : X.length = 0
      · have hX0 : X = [] := List.eq_nil_of_length_eq_zero hM
        subst hX0
        have hst2 : levTo l (k + 1) = [[(i : Int)]] := by rw [hstep, levStep, if_neg (by simp)]; rfl
        have Hl := Lib.hid hl
        have Hst2 := Lib.hid hst2
        have Hstep := Lib.hid hstep
        have Hi := Lib.hid hi
        have Hx := Lib.hid hx
        have Hkx := Lib.hid hkx
        have HX := Lib.hid hX
        have HXl := Lib.hid hXl
        have HXn := Lib.hid hXn
        have HM := Lib.hid hM
        clear hl hst2 hstep hi hx hkx hX hXl hXn hM
        rw [List.length_nil]
        go_wp2
        refine wp_region_past (by kernel_rfl) (by kernel_rfl) ?_
        repeat (go_big_quiet_step ((fail)))
        refine wpQuiet_nil ?_
        intro wx hwx
        obtain ⟨⟨wy, hbx⟩, hw⟩ := hwx
        change wx = wy at hw
        subst hw
        have hlx := Hl.out.below hbx
        have hnl : (([] : List (List Int)).length) = 0 := rfl
        have Hlx := Lib.hid hlx
        clear hlx
        clear hbx o1 o2 co cl
        go_wp2_with (at_builtin; refine wpList_lev rfl (.tmp 45) (.tmp 48) rfl Hlx.out (i : Int) ?_ 0 ?_ rfl rfl ?_; omega; omega; intro g3 c3 w6 hl7; have Hl7 := Lib.hid hl7; clear hl7)
        go_roundw
        case rel => exact ⟨k + 1, some ⟨g3, 0, none⟩, c3, by omega, by go_num, by rw [Hst2.out]; rfl, by rw [Hst2.out]; exact Hl7.out⟩
        case measure => simp [intOf]; omega
      · obtain ⟨M, hM1⟩ : ∃ M, X.length = M + 1 := ⟨X.length - 1, by omega⟩
        obtain ⟨lv, hlv⟩ := some_of (l := X) (k := M) (by omega)
        obtain ⟨a, r, hlve, han⟩ := hXl M lv hlv
        have hln := hXn M lv hlv
        have hv0 : lv[0]? = some (a : Int) := by rw [hlve]; rfl
        obtain ⟨z, hz⟩ := some_of (l := l) (k := a) han
        have hkz : keyOf l a = z := by rw [keyOf, List.getD_eq_getElem?_getD, hz]; rfl
        have han2 : a < n := by rw [← Hn.out]; exact han
        have hani : (a : Int) < (n : Int) := by omega
        obtain ⟨ld2, e2, cz⟩ := Hli.out wr hl.only a z hz
        obtain rfl : ld = ld2 := by injection e2
        obtain ⟨G, a0, d0, rfl, ch, hro, hld, hcM⟩ := hl.at_ hlv
        obtain ⟨g0, e3, _, _, ca, _⟩ := ownr hro hv0
        subst e3
        have hX1 : X.length - 1 = M := by omega
        have hXg : X.getD M [] = lv := by rw [List.getD_eq_getElem?_getD, hlv]; rfl
        have hXh : ((X.getD M []).getD 0 0).toNat = a := by rw [hXg, hlve, head_toNat]
        have hlpos : 0 < lv.length := by rw [hlve]; simp
        have hl19 : lv.length ≤ 19 := by rw [Hn.out] at hln; omega
        have wM : IntKind.i64.wrap ((M : Int) + 1 - 1) = (M : Int) := by rw [IntWalk.i64_in _ (by omega)]; omega
        have o3 : ∀ y : Past wr, y.now.cell? ⟨G, M, none⟩ = some (.slice (some ⟨g0, 0, none⟩) lv.length d0) := Past.cell ch
        have o4 : ∀ y : Past wr, y.now.cell? ⟨g0, 0, none⟩ = some (.int .i64 (a : Int)) := Past.cell ca
        have o5 : ∀ y : Past wr, y.now.cell? (ld.add a) = some (.int .i64 z) := Past.cell cz
        have hdM : decide ((0 : Int) < (M : Int) + 1) = true := by rw [decide_eq_true_iff]; omega
        have hdM2 : decide ((0 : Int) ≤ (M : Int)) = true := by rw [decide_eq_true_iff]; omega
        have hMc : M < c1 := by omega
        have hMn : M ≤ 19 := by omega
        clear e2
        rw [hM1]
        have Hl := Lib.hid hl
        have Hstep := Lib.hid hstep
        have Hi := Lib.hid hi
        have Hx := Lib.hid hx
        have Hkx := Lib.hid hkx
        have HX := Lib.hid hX
        have HXl := Lib.hid hXl
        have HXn := Lib.hid hXn
        have HM := Lib.hid hM
        have HM1 := Lib.hid hM1
        have Hlv := Lib.hid hlv
        have Hlve := Lib.hid hlve
        have Hv0 := Lib.hid hv0
        have Hz := Lib.hid hz
        have Hkz := Lib.hid hkz
        have HX1 := Lib.hid hX1
        have HXg := Lib.hid hXg
        have HXh := Lib.hid hXh
        have Hro := Lib.hid hro
        have Hln := Lib.hid hln
        clear hl hstep hi hx hkx hX hXl hXn hM hM1 hlv hlve hv0 hz hkz hX1 hXg hXh hro hln
        go_wp2
        refine wp_region_past (by kernel_rfl) (by kernel_rfl) ?_
        repeat (go_big_quiet_step ((fail)))
        refine wpQuiet_nil ?_
        intro wx hwx
        obtain ⟨⟨wy, hbx⟩, hw⟩ := hwx
        change wx = wy at hw
        subst hw
        have hlx := Hl.out.below hbx
        have hZx := hlx.ge
        have cr := keep_of_below hbx _ _ ch
        have hrow := (Hro.out.below hbx).wide (Nat.le_refl Z) hbx.size
        have Hlx := Lib.hid hlx
        have Hrow := Lib.hid hrow
        clear hlx hrow
        clear hbx o1 o2 o3 o4 o5 co cl cz ch ca
        by_cases hzx : z = x
        · have e1 : (z == x) = true := by simp [hzx]
          have hst2 : levTo l (k + 1) = X.set M (lv ++ [(i : Int)]) := by rw [Hstep.out, levStep, HX1.out, HXh.out, Hkz.out, Hkx.out, HXg.out, if_pos ⟨HM.out, hzx⟩]
          have hsl : (X.set M (lv ++ [(i : Int)])).length = M + 1 := by rw [List.length_set, HM1.out]
          have Hzx := Lib.hid hzx
          have Hst2 := Lib.hid hst2
          have Hsl := Lib.hid hsl
          clear hzx hst2 hsl
          go_wp2_with (at_builtin; refine wpList_app1l rfl (.tmp 40) (.tmp 42) 33 rfl 3 (.int .i64 0) 8 Try.underlying33 info_int rfl wx Z (some ⟨g0, 0, none⟩) d0 (lv.map (.int .i64)) Hrow.out ?_ (.int .i64 (i : Int)) rfl ?_ (by decide) lv.length ?_ rfl rfl ?_; exact hZx; (rw [List.length_map]; omega); (rw [List.length_map]); intro g3 c3 w6 ho6 hg6 hg6' hl6; (have hsn : lv.map (Value.int .i64) ++ [Value.int .i64 (i : Int)] = (lv ++ [(i : Int)]).map (.int .i64) := by rw [List.map_append]; rfl); rw [hsn] at ho6; (obtain ⟨⟨y6, cy6⟩, fy6, hl7⟩ := Hlx.out.grow Hlv.out cr hg6 ho6 hl6); have Hl7 := Lib.hid hl7; clear hsn ho6 hg6 hg6' hl6 hl7)
          go_wp2
          go_roundw
          case rel => exact ⟨k + 1, some ⟨G, 0, none⟩, c1, by omega, by go_num, by rw [Hst2.out, Hsl.out], by rw [Hst2.out]; exact Hl7.out⟩
          case measure => simp [intOf]; omega
        · have e1 : (z == x) = false := by simpa using hzx
          have hst2 : levTo l (k + 1) = X ++ [[(i : Int)]] := by rw [Hstep.out, levStep, HX1.out, HXh.out, Hkz.out, Hkx.out, if_neg (fun h => hzx h.2)]
          have hsl : (X ++ [[(i : Int)]]).length = M + 1 + 1 := by rw [List.length_append, HM1.out]; rfl
          have hM2 : M + 1 = X.length := HM1.out.symm
          have HM2 := Lib.hid hM2
          have Hzx := Lib.hid hzx
          have Hst2 := Lib.hid hst2
          have Hsl := Lib.hid hsl
          clear hzx hst2 hsl
          clear hM2 cr
          go_wp2_with (at_builtin; refine wpList_lev rfl (.tmp 45) (.tmp 48) rfl Hlx.out (i : Int) ?_ (M + 1) ?_ rfl rfl ?_; (rw [HM1.out]; omega); exact HM2.out; intro g3 c3 w6 hl7; have Hl7 := Lib.hid hl7; clear hl7)
          go_roundw
          case rel => exact ⟨k + 1, some ⟨g3, 0, none⟩, c3, by omega, by go_num, by rw [Hst2.out, Hsl.out], by rw [Hst2.out]; exact Hl7.out⟩
          case measure => simp [intOf]; omega
    · obtain rfl : k = n := by omega
      have hfin : levTo l k = R := by rw [← HR.out, ← levTo_end, Hn.out]
      rw [hfin] at hl ⊢
      have hrows := hl.rows
      have hbl := Hbw.out.trans (below_of_only hl.only hwK Hbw.out.size)
      have Hrows := Lib.hid hrows
      have Hbl := Lib.hid hbl
      have Hl := Lib.hid hl
      have Hfin := Lib.hid hfin
      clear hrows hbl hl hfin
      go_wp2
      go_ret
      exact ⟨A1, c1, rfl, Hrows.out, Hbl.out⟩
end Go.Proofs.Ytehlijpjcjegcaa
