/- Contracts: the points after an ending of a last day (program and reference). -/
import Derived.Test.YteigcfcabmoghaaDay
import Derived.StillTailTactics
namespace Go.Proofs.Yteigcfcabmoghaa
open Go.RowKit

/-- Games of a last day. -/
structure Day (n : Nat) (games : List (List Int)) : Prop where
  few : games.length ≤ 4
  two : 2 ≤ n
  eight : n ≤ 8
  game : ∀ g ∈ games, ∃ x y : Nat, g = [(x : Int), (y : Int)] ∧ x < n ∧ y < n ∧ x ≠ y
theorem dayGames_of {n : Nat} : ∀ (games : List (List Int)) (seen : List Int), dayGames n games seen = true → ∀ g ∈ games, ∃ x y : Nat, g = [(x : Int), (y : Int)] ∧ x < n ∧ y < n ∧ x ≠ y
  | [], _, _, _, hg => by simp at hg
  | g :: r, seen, h, g', hg => by
    simp only [dayGames, Bool.and_eq_true, decide_eq_true_eq] at h
    obtain ⟨h0, h1, h2⟩ := h
    obtain ⟨x, y, rfl⟩ := two_of h0
    simp only [addAll, Bool.and_eq_true, Bool.not_eq_true', decide_eq_false_iff_not] at h2
    rcases List.mem_cons.1 hg with rfl | hg
    · simp only [List.all_cons, List.all_nil, Bool.and_true, Bool.and_eq_true] at h1
      have a1 := inR_true h1.1
      have a2 := inR_true h1.2
      refine ⟨x.toNat, y.toNat, by simp; omega, by omega, by omega, fun e => ?_⟩
      have : y = x := by omega
      exact h2.2.1 (by simp [this])
    · exact dayGames_of r _ h2.2.2 g' hg
theorem day_of {points : List Int} {games : List (List Int)} (h : dayOk points games = true) : Day points.length games ∧ ∀ v ∈ points, 0 ≤ v ∧ v ≤ 200 := by
  simp only [dayOk, Bool.and_eq_true, decide_eq_true_eq, List.all_eq_true] at h
  obtain ⟨h1, h2, h3, h4⟩ := h
  have a1 := inR_true h1
  exact ⟨⟨h3, by omega, by omega, dayGames_of _ _ h4⟩, fun v hv => inR_true (h2 v hv)⟩
theorem Day.at_ {n : Nat} {games : List (List Int)} (h : Day n games) {k : Nat} {g : List Int} (hg : games[k]? = some g) : ∃ x y : Nat, g = [(x : Int), (y : Int)] ∧ x < n ∧ y < n ∧ x ≠ y := h.game g (List.mem_of_getElem? hg)

def addAt (out : List Int) (k : Nat) (v : Int) : List Int := out.set k (out.getD k 0 + v)
theorem addAt_len (out : List Int) (k : Nat) (v : Int) : (addAt out k v).length = out.length := by simp [addAt]
def ptA (e : Int) : Int := if e = 0 then 3 else if e = 1 then 1 else 0
def ptB (e : Int) : Int := if e = 0 then 0 else if e = 1 then 1 else 3
theorem ptA0 : ptA 0 = 3 := rfl
theorem ptA1 : ptA 1 = 1 := rfl
theorem ptA2 : ptA 2 = 0 := rfl
theorem ptB0 : ptB 0 = 0 := rfl
theorem ptB1 : ptB 1 = 1 := rfl
theorem ptB2 : ptB 2 = 3 := rfl
def afterD : List Int → List (List Int) → List Int → List Int
  | out, [], _ => out
  | out, _ :: _, [] => out
  | out, g :: L, e :: E => afterD (addAt (addAt out (g.getD 0 0).toNat (ptA e)) (g.getD 1 0).toNat (ptB e)) L E
theorem afterD_len : ∀ (L : List (List Int)) (E : List Int) (out : List Int), (afterD out L E).length = out.length
  | [], _, _ => by rw [afterD]
  | _ :: _, [], _ => by rw [afterD]
  | g :: L, e :: E, out => by rw [afterD, afterD_len L E, addAt_len, addAt_len]
theorem addAt_zero (out : List Int) (k : Nat) : addAt out k 0 = out := by
  apply List.ext_getElem?
  intro i
  rw [addAt, List.getElem?_set]
  by_cases hik : k = i
  · subst hik
    rw [if_pos rfl]
    by_cases hk : k < out.length
    · simp [hk]
    · rw [if_neg hk, List.getElem?_eq_none (by omega)]
  · rw [if_neg hik]
theorem addAt_bound {out : List Int} {k : Nat} {v b : Int} (h : ∀ x ∈ out, 0 ≤ x ∧ x ≤ b) (hv : 0 ≤ v) (hv2 : v ≤ 3) (hb : 0 ≤ b) : ∀ x ∈ addAt out k v, 0 ≤ x ∧ x ≤ b + 3 := by
  intro x hx
  rcases List.mem_or_eq_of_mem_set hx with hx | rfl
  · have := h x hx; omega
  · rw [List.getD_eq_getElem?_getD]
    cases hk : out[k]? with
    | none => simp; omega
    | some u => have := h u (List.mem_of_getElem? hk); simp; omega
/-- Both stores of a round. -/
theorem two_adds {T : TypeId} {lo hi g c : Nat} {w : World} {xs : List Int} {a b : Nat} (h : Own T lo hi w (some ⟨g, 0, none⟩) c (xs.map (.int .i64))) (ha : a < xs.length) (hb : b < xs.length) (u v : Int) :
    ∃ x y, w.cell? ⟨g, a, none⟩ = some (.int .i64 x) ∧ w.frozen? ⟨g, a, none⟩ = false ∧ xs.getD a 0 = x ∧ (w.setCell ⟨g, a, none⟩ (.int .i64 (x + u))).cell? ⟨g, b, none⟩ = some (.int .i64 y) ∧ w.frozen? ⟨g, b, none⟩ = false ∧ (addAt xs a u).getD b 0 = y ∧
      Own T lo hi ((w.setCell ⟨g, a, none⟩ (.int .i64 (x + u))).setCell ⟨g, b, none⟩ (.int .i64 (y + v))) (some ⟨g, 0, none⟩) c ((addAt (addAt xs a u) b v).map (.int .i64)) := by
  obtain ⟨x, hx⟩ := some_of ha
  have ex : xs.getD a 0 = x := by simp [hx]
  have e1 : addAt xs a u = xs.set a (x + u) := by rw [addAt, ex]
  obtain ⟨y, hy⟩ := some_of (l := xs.set a (x + u)) (k := b) (by simpa using hb)
  have ey : (xs.set a (x + u)).getD b 0 = y := by simp [hy]
  obtain ⟨y', hy'⟩ := some_of hb
  obtain ⟨g1, e1', _, _, h1, h2⟩ := ownr h hx
  obtain rfl : g = g1 := by injection e1' with e1'; injection e1'
  obtain ⟨g2, e2, _, _, _, h3⟩ := ownr h hy'
  obtain rfl : g = g2 := by injection e2 with e2; injection e2
  obtain ⟨g3, e3, _, _, h4, _⟩ := ownr (h.seti a (x + u)) hy
  obtain rfl : g = g3 := by injection e3 with e3; injection e3
  refine ⟨x, y, h1, h2, ex, h4, h3, by rw [e1, ey], ?_⟩
  rw [show addAt (addAt xs a u) b v = (xs.set a (x + u)).set b (y + v) from by rw [e1, addAt, ey]]
  exact (h.seti a (x + u)).seti b (y + v)
theorem one_add {T : TypeId} {lo hi g c : Nat} {w : World} {xs : List Int} {a : Nat} (h : Own T lo hi w (some ⟨g, 0, none⟩) c (xs.map (.int .i64))) (ha : a < xs.length) (u : Int) :
    ∃ x, w.cell? ⟨g, a, none⟩ = some (.int .i64 x) ∧ w.frozen? ⟨g, a, none⟩ = false ∧ xs.getD a 0 = x ∧
      Own T lo hi (w.setCell ⟨g, a, none⟩ (.int .i64 (x + u))) (some ⟨g, 0, none⟩) c ((addAt xs a u).map (.int .i64)) := by
  obtain ⟨x, hx⟩ := some_of ha
  have ex : xs.getD a 0 = x := by simp [hx]
  obtain ⟨g1, e1', _, _, h1, h2⟩ := ownr h hx
  obtain rfl : g = g1 := by injection e1' with e1'; injection e1'
  refine ⟨x, h1, h2, ex, ?_⟩
  rw [addAt, ex]
  exact h.seti a (x + u)
theorem getD_mem {xs : List Int} {a : Nat} {x : Int} (h : a < xs.length) (e : xs.getD a 0 = x) : x ∈ xs := by
  rw [← e, List.getD_eq_getElem?_getD, List.getElem?_eq_getElem h]; exact List.getElem_mem h

theorem idx3_0 (a b c : Int) (w : World) : (Instr.index 58 (.agg #[.int .i64 a, .int .i64 b, .int .i64 c]) (.int .i64 0)).run Try.prog w = .ok (.int .i64 a) w := by rfl
theorem idx3_1 (a b c : Int) (w : World) : (Instr.index 58 (.agg #[.int .i64 a, .int .i64 b, .int .i64 c]) (.int .i64 1)).run Try.prog w = .ok (.int .i64 b) w := by rfl
theorem idx3_2 (a b c : Int) (w : World) : (Instr.index 58 (.agg #[.int .i64 a, .int .i64 b, .int .i64 c]) (.int .i64 2)).run Try.prog w = .ok (.int .i64 c) w := by rfl
set_option maxHeartbeats 4000000 in
theorem afterDay_c (A B D : Option Addr) (c d f : Nat) (points : List Int) (games : List (List Int)) (ending : List Int) (w : World) (ha : Ints w A points) (hb : Rows w B games) (hd : Ints w D ending)
    (hpt : ∀ v ∈ points, 0 ≤ v ∧ v ≤ 200) (hday : Day points.length games) (hel : ending.length = games.length) (hen : ∀ e ∈ ending, 0 ≤ e ∧ e ≤ 2) :
    Calls Try.prog 47 #[.slice A points.length c, .slice B games.length d, .slice D ending.length f] w (GivesI 3 w (afterD points games ending)) := by
  generalize hR : afterD points games ending = R
  have HR := Lib.hid hR
  clear hR
  have hn2 := hday.two
  have hn8 := hday.eight
  have hfew := hday.few
  have Ha := Lib.hid ha
  have Hb := Lib.hid hb
  have Hd := Lib.hid hd
  have Hpt := Lib.hid hpt
  have Hday := Lib.hid hday
  have Hen := Lib.hid hen
  clear ha hb hd hpt hday hen
  rw [hel]
  have Hel := Lib.hid hel
  clear hel
  go_enter Try.func47, Try.ntmps47
  go_wp2_with fail
  refine (clone_c _ _ _ _ Ha.out (by omega)).mono ?_
  rintro e w2 ⟨C, cc, rfl, ho2, hb2⟩
  have hz2 : w.heap.size ≤ w2.heap.size := hb2.size
  obtain ⟨g0, rfl⟩ : ∃ g0, C = some ⟨g0, 0, none⟩ := by
    obtain ⟨v, hv⟩ := some_of (l := points) (k := 0) (by omega)
    obtain ⟨g0, e, _⟩ := ownr ho2 hv
    exact ⟨g0, e⟩
  have hg0 : w.heap.size ≤ g0 := by
    obtain ⟨v, hv⟩ := some_of (l := points) (k := 0) (by omega)
    obtain ⟨g1, e, h, _⟩ := ownr ho2 hv
    obtain rfl : g0 = g1 := by injection e with e; injection e
    omega
  have Ho2 := Lib.hid ho2
  have Hb2 := Lib.hid hb2
  clear ho2 hb2
  go_wp2
  go_loopw [14] (fun i wr => ∃ (j : Nat) (out : List Int), j ≤ games.length ∧ i = .int .i64 j ∧ out.length = points.length ∧ (∀ x ∈ out, 0 ≤ x ∧ x ≤ 200 + 6 * (j : Int)) ∧ afterD out (games.drop j) (ending.drop j) = R ∧ Own 3 w.heap.size w2.heap.size wr (some ⟨g0, 0, none⟩) cc (out.map (.int .i64)) ∧ Below w.heap.size w wr ∧ w2.heap.size ≤ wr.heap.size) (fun i _ => games.length - (intOf i).toNat)
  case atStart => exact ⟨0, points, Nat.zero_le _, rfl, rfl, fun x hx => by have := Hpt.out x hx; omega, HR.out, Ho2.out, Hb2.out, Nat.le_refl _⟩
  case round =>
    obtain ⟨j, out, hj, rfl, hlo, hbd, hS, ho, hdn, hzr⟩ := hrel
    have HS := Lib.hid hS
    have Ho := Lib.hid ho
    have Hdn := Lib.hid hdn
    have Hbd := Lib.hid hbd
    have Hlo := Lib.hid hlo
    clear hS ho hdn hbd hlo
    by_cases hlt : j < games.length
    · obtain ⟨g, hx⟩ := some_of hlt
      obtain ⟨bd, b', c', rfl, _, _, hcaw, hia⟩ := Hb.out j g hx
      obtain ⟨x, y, rfl, hxn, hyn, hxy⟩ := Hday.out.at_ hx
      obtain ⟨ad, rfl, g0w, g1w⟩ := ints2 hia
      have hca : wr.cell? (bd.add j) = some (.slice (some ad) 2 c') := keep_of_below Hdn.out _ _ hcaw
      obtain ⟨e, he⟩ := some_of (l := ending) (k := j) (by rw [Hel.out]; exact hlt)
      obtain ⟨ae, rfl, hew⟩ := Hd.out j e he
      obtain ⟨e0, e2⟩ := Hen.out e (List.mem_of_getElem? he)
      have HS1 : Hid (afterD (addAt (addAt out x (ptA e)) y (ptB e)) (games.drop (j + 1)) (ending.drop (j + 1)) = R) := Lib.hid (by have := HS.out; rw [drop_of hx, drop_of he, afterD] at this; exact this)
      have hpa : 0 ≤ ptA e ∧ ptA e ≤ 3 := by unfold ptA; split <;> (try split) <;> omega
      have hpb : 0 ≤ ptB e ∧ ptB e ≤ 3 := by unfold ptB; split <;> (try split) <;> omega
      have hbd2 : ∀ v ∈ addAt (addAt out x (ptA e)) y (ptB e), 0 ≤ v ∧ v ≤ 200 + 6 * ((j + 1 : Nat) : Int) := fun v hv => by
        have := addAt_bound (addAt_bound (k := x) (v := ptA e) Hbd.out hpa.1 hpa.2 (by omega)) (k := y) (v := ptB e) hpb.1 hpb.2 (by omega) v hv
        omega
      have hxo : x < out.length := by rw [Hlo.out]; omega
      have hyo : y < out.length := by rw [Hlo.out]; omega
      have how := Ho.out
      obtain ⟨u, v, k1, k2, k3, k4, k5, k6, ho2⟩ := two_adds how hxo hyo (ptA e) (ptB e)
      have hu := Hbd.out u (getD_mem hxo k3)
      have hv := (addAt_bound (k := x) (v := ptA e) Hbd.out hpa.1 hpa.2 (by omega)) v (getD_mem (by rw [addAt_len]; exact hyo) k6)
      have wu : IntKind.i64.wrap (u + ptA e) = u + ptA e := IntWalk.i64_in _ (by omega)
      have wv : IntKind.i64.wrap (v + ptB e) = v + ptB e := IntWalk.i64_in _ (by omega)
      have e0' := keep_of_below Hdn.out _ _ g0w
      have e2' := keep_of_below Hdn.out _ _ hew
      have hbs := Hdn.out.setCell (p := ⟨g0, x, none⟩) hg0 (.int .i64 (u + ptA e))
      have hbs2 := hbs.setCell (p := ⟨g0, y, none⟩) hg0 (.int .i64 (v + ptB e))
      have hzs : w2.heap.size ≤ ((wr.setCell ⟨g0, x, none⟩ (.int .i64 (u + ptA e))).setCell ⟨g0, y, none⟩ (.int .i64 (v + ptB e))).heap.size := by rw [setCell_size, setCell_size]; exact hzr
      have e1 := keep_of_below hbs _ _ g1w
      have e3 := keep_of_below hbs _ _ hew
      have k5' : (wr.setCell ⟨g0, x, none⟩ (.int .i64 (u + ptA e))).drew.frozen? ⟨g0, y, none⟩ = false := by simpa using k5
      have k4' : (wr.setCell ⟨g0, x, none⟩ (.int .i64 (u + ptA e))).drew.cell? ⟨g0, y, none⟩ = some (.int .i64 v) := k4
      have e1' : (wr.setCell ⟨g0, x, none⟩ (.int .i64 (u + ptA e))).drew.cell? ⟨ad.block, ad.off + 1, none⟩ = some (.int .i64 (y : Int)) := e1
      have e3' : (wr.setCell ⟨g0, x, none⟩ (.int .i64 (u + ptA e))).drew.cell? (ae.add j) = some (.int .i64 e) := e3
      have Ho3 : Hid (Own 3 w.heap.size w2.heap.size (((wr.setCell ⟨g0, x, none⟩ (.int .i64 (u + ptA e))).drew.setCell ⟨g0, y, none⟩ (.int .i64 (v + ptB e))).drew) (some ⟨g0, 0, none⟩) cc ((addAt (addAt out x (ptA e)) y (ptB e)).map (.int .i64))) := Lib.hid ho2
      have Hbs4 : Hid (Below w.heap.size w (((wr.setCell ⟨g0, x, none⟩ (.int .i64 (u + ptA e))).drew.setCell ⟨g0, y, none⟩ (.int .i64 (v + ptB e))).drew)) := Lib.hid hbs2.drew.drew
      have hzs' : w2.heap.size ≤ (((wr.setCell ⟨g0, x, none⟩ (.int .i64 (u + ptA e))).drew.setCell ⟨g0, y, none⟩ (.int .i64 (v + ptB e))).drew).heap.size := hzs
      have hcases : e = 0 ∨ e = 1 ∨ e = 2 := by omega
      have Hx := Lib.hid hx
      have He := Lib.hid he
      have K3 := Lib.hid k3
      have K6 := Lib.hid k6
      have Hbd2 := Lib.hid hbd2
      clear hx he k3 k6 hbd2
      clear hu hv hbs hbs2 how ho2 k4 e1 e3 k5 hzs hia hcaw g0w g1w hew hpa hpb
      have hxw : (x : Int) < (points.length : Int) := by omega
      have hyw : (y : Int) < (points.length : Int) := by omega
      have hje : (j : Int) < (games.length : Int) := by omega
      have hi0 := idx3_0
      have hi1 := idx3_1
      have hi2 := idx3_2
      rcases hcases with rfl | rfl | rfl
      all_goals
        simp only [ptA0, ptA1, ptA2, ptB0, ptB1, ptB2, Int.add_zero] at wu wv k4' k5' e1' e3' Ho3 Hbs4 hzs' HS1 Hbd2
        go_wp2
        go_still_tail 14, (by kernel_rfl)
        go_wp2
        generalize (wr.setCell ⟨g0, x, none⟩ (.int .i64 _)).drew = W1 at e1' e3' k4' k5' Ho3 Hbs4 hzs' ⊢
        go_still_tail 14, (by kernel_rfl)
        go_wp2
        go_roundw
        case rel => exact ⟨j + 1, _, by omega, by go_num, by rw [addAt_len, addAt_len]; exact Hlo.out, Hbd2.out, HS1.out, Ho3.out, Hbs4.out, hzs'⟩
        case measure => simp [intOf]; omega
    · obtain rfl : j = games.length := by omega
      have HS1 : Hid (out = R) := Lib.hid (by have := HS.out; rwa [List.drop_length, afterD] at this)
      go_wp2
      go_ret
      rw [← HS1.out]
      exact ⟨some ⟨g0, 0, none⟩, cc, by rw [Hlo.out]; rfl, Ho.out.wide (Nat.le_refl _) hzr, Hdn.out⟩

set_option maxHeartbeats 4000000 in
theorem l15After_c (A B D : Option Addr) (c d f : Nat) (points : List Int) (games : List (List Int)) (ending : List Int) (w : World) (ha : Ints w A points) (hb : Rows w B games) (hd : Ints w D ending)
    (hpt : ∀ v ∈ points, 0 ≤ v ∧ v ≤ 200) (hday : Day points.length games) (hel : ending.length = games.length) (hen : ∀ e ∈ ending, 0 ≤ e ∧ e ≤ 2) :
    Calls Try.prog 46 #[.slice A points.length c, .slice B games.length d, .slice D ending.length f] w (GivesI 3 w (afterD points games ending)) := by
  generalize hR : afterD points games ending = R
  have HR := Lib.hid hR
  clear hR
  have hn2 := hday.two
  have hn8 := hday.eight
  have hfew := hday.few
  obtain ⟨ad0, rfl⟩ : ∃ ad, A = some ad := by
    obtain ⟨v, hv⟩ := some_of (l := points) (k := 0) (by omega)
    obtain ⟨ad, e, _⟩ := ha 0 v hv
    exact ⟨ad, e⟩
  have Ha := Lib.hid ha
  have Hb := Lib.hid hb
  have Hd := Lib.hid hd
  have Hpt := Lib.hid hpt
  have Hday := Lib.hid hday
  have Hen := Lib.hid hen
  clear ha hb hd hpt hday hen
  rw [hel]
  have Hel := Lib.hid hel
  clear hel
  go_enter Try.func46, Try.ntmps46
  go_wp2_with (at_builtin; refine wpList_appN rfl (.tmp 10) (.tmp 11) 22 rfl 3 (.int .i64 0) 8 Try.underlying22 info_int rfl w.heap.size (some ⟨w.heap.size, 0, none⟩) 0 [] ?_ ?_ (some ad0) c (points.map (.int .i64)) ?_ ?_ ?_ ?_ ?_ 0 points.length ?_ ?_ ?_ ?_ ?_; exact ⟨by simp, by unfold maxLen; omega, .inr ⟨w.heap.size, #[], rfl, Nat.le_refl _, by simp, heap_alloc_new w _, rfl, rfl⟩⟩; simp; exact (Ha.out.keep (keep_of_below ((Below.refl _ _).alloc (Nat.le_refl _) _))).cells; exact ints_oneCell .i64 points; decide; (simp; omega); decide; rfl; simp; rfl; rfl; intro C cc w2 ho2 hb' _ hz')
  rw [List.nil_append] at ho2
  have hb2 : Below w.heap.size w w2 := ((Below.refl _ _).alloc (Nat.le_refl _) _).trans hb'
  clear hb' hz'
  have hz2 : w.heap.size ≤ w2.heap.size := hb2.size
  obtain ⟨g0, rfl⟩ : ∃ g0, C = some ⟨g0, 0, none⟩ := by
    obtain ⟨v, hv⟩ := some_of (l := points) (k := 0) (by omega)
    obtain ⟨g0, e, _⟩ := ownr ho2 hv
    exact ⟨g0, e⟩
  have hg0 : w.heap.size ≤ g0 := by
    obtain ⟨v, hv⟩ := some_of (l := points) (k := 0) (by omega)
    obtain ⟨g1, e, h, _⟩ := ownr ho2 hv
    obtain rfl : g0 = g1 := by injection e with e; injection e
    omega
  have Ho2 := Lib.hid ho2
  have Hb2 := Lib.hid hb2
  clear ho2 hb2
  go_wp2
  go_loopw [15] (fun i wr => ∃ (j : Nat) (out : List Int), j ≤ games.length ∧ i = .int .i64 j ∧ out.length = points.length ∧ (∀ x ∈ out, 0 ≤ x ∧ x ≤ 200 + 6 * (j : Int)) ∧ afterD out (games.drop j) (ending.drop j) = R ∧ Own 3 w.heap.size w2.heap.size wr (some ⟨g0, 0, none⟩) cc (out.map (.int .i64)) ∧ Below w.heap.size w wr ∧ w2.heap.size ≤ wr.heap.size) (fun i _ => games.length - (intOf i).toNat)
  case atStart => exact ⟨0, points, Nat.zero_le _, rfl, rfl, fun x hx => by have := Hpt.out x hx; omega, HR.out, Ho2.out, Hb2.out, Nat.le_refl _⟩
  case round =>
    obtain ⟨j, out, hj, rfl, hlo, hbd, hS, ho, hdn, hzr⟩ := hrel
    have HS := Lib.hid hS
    have Ho := Lib.hid ho
    have Hdn := Lib.hid hdn
    have Hbd := Lib.hid hbd
    have Hlo := Lib.hid hlo
    clear hS ho hdn hbd hlo
    by_cases hlt : j < games.length
    · obtain ⟨g, hx⟩ := some_of hlt
      obtain ⟨bd, b', c', rfl, _, _, hcaw, hia⟩ := Hb.out j g hx
      obtain ⟨x, y, rfl, hxn, hyn, hxy⟩ := Hday.out.at_ hx
      obtain ⟨ad, rfl, g0w, g1w⟩ := ints2 hia
      have hca : wr.cell? (bd.add j) = some (.slice (some ad) 2 c') := keep_of_below Hdn.out _ _ hcaw
      obtain ⟨e, he⟩ := some_of (l := ending) (k := j) (by rw [Hel.out]; exact hlt)
      obtain ⟨ae, rfl, hew⟩ := Hd.out j e he
      obtain ⟨e0, e2⟩ := Hen.out e (List.mem_of_getElem? he)
      have HS1 : Hid (afterD (addAt (addAt out x (ptA e)) y (ptB e)) (games.drop (j + 1)) (ending.drop (j + 1)) = R) := Lib.hid (by have := HS.out; rw [drop_of hx, drop_of he, afterD] at this; exact this)
      have hpa : 0 ≤ ptA e ∧ ptA e ≤ 3 := by unfold ptA; split <;> (try split) <;> omega
      have hpb : 0 ≤ ptB e ∧ ptB e ≤ 3 := by unfold ptB; split <;> (try split) <;> omega
      have hbd2 : ∀ v ∈ addAt (addAt out x (ptA e)) y (ptB e), 0 ≤ v ∧ v ≤ 200 + 6 * ((j + 1 : Nat) : Int) := fun v hv => by
        have := addAt_bound (addAt_bound (k := x) (v := ptA e) Hbd.out hpa.1 hpa.2 (by omega)) (k := y) (v := ptB e) hpb.1 hpb.2 (by omega) v hv
        omega
      have hxo : x < out.length := by rw [Hlo.out]; omega
      have hyo : y < out.length := by rw [Hlo.out]; omega
      have hxw : (x : Int) < (points.length : Int) := by omega
      have hyw : (y : Int) < (points.length : Int) := by omega
      have hje : (j : Int) < (games.length : Int) := by omega
      have hcases : e = 0 ∨ e = 1 ∨ e = 2 := by omega
      have e2' := keep_of_below Hdn.out _ _ hew
      have Hx := Lib.hid hx
      have He := Lib.hid he
      have Hbd2 := Lib.hid hbd2
      clear hx he hbd2
      rcases hcases with rfl | rfl | rfl
      · rw [ptA0, ptB0] at HS1 Hbd2
        rw [addAt_zero] at HS1 Hbd2
        obtain ⟨u, k1, k2, k3, ho3⟩ := one_add Ho.out hxo 3
        have hu := Hbd.out u (getD_mem hxo k3)
        have wu : IntKind.i64.wrap (u + 3) = u + 3 := IntWalk.i64_in _ (by omega)
        have e0' := keep_of_below Hdn.out _ _ g0w
        have hbs := (Hdn.out.setCell (p := ⟨g0, x, none⟩) hg0 (.int .i64 (u + 3))).drew
        have Ho4 : Hid (Own 3 w.heap.size w2.heap.size (wr.setCell ⟨g0, x, none⟩ (.int .i64 (u + 3))).drew (some ⟨g0, 0, none⟩) cc ((addAt out x 3).map (.int .i64))) := Lib.hid ho3
        have hzs' : w2.heap.size ≤ (wr.setCell ⟨g0, x, none⟩ (.int .i64 (u + 3))).drew.heap.size := by show w2.heap.size ≤ (wr.setCell ⟨g0, x, none⟩ (.int .i64 (u + 3))).heap.size; rw [setCell_size]; exact hzr
        have K3 := Lib.hid k3
        have Hbs := Lib.hid hbs
        have Ho3 := Lib.hid ho3
        clear k3 hbs ho3
        clear hu hia hcaw g0w g1w hew hpa hpb
        go_wp2
        go_still_tail 12, (by kernel_rfl)
        go_wp2
        go_roundw
        case rel => exact ⟨j + 1, _, by omega, by go_num, by rw [addAt_len]; exact Hlo.out, Hbd2.out, HS1.out, Ho4.out, Hbs.out, hzs'⟩
        case measure => simp [intOf]; omega
      · rw [ptA1, ptB1] at HS1 Hbd2
        obtain ⟨u, v, k1, k2, k3, k4, k5, k6, ho3⟩ := two_adds Ho.out hxo hyo 1 1
        have hu := Hbd.out u (getD_mem hxo k3)
        have hv := (addAt_bound (k := x) (v := 1) Hbd.out (by omega) (by omega) (by omega)) v (getD_mem (by rw [addAt_len]; exact hyo) k6)
        have wu : IntKind.i64.wrap (u + 1) = u + 1 := IntWalk.i64_in _ (by omega)
        have wv : IntKind.i64.wrap (v + 1) = v + 1 := IntWalk.i64_in _ (by omega)
        have e0' := keep_of_below Hdn.out _ _ g0w
        have hbs0 := Hdn.out.setCell (p := ⟨g0, x, none⟩) hg0 (.int .i64 (u + 1))
        have e1' := keep_of_below hbs0 _ _ g1w
        have hbs := hbs0.setCell (p := ⟨g0, y, none⟩) hg0 (.int .i64 (v + 1))
        have k5' : (wr.setCell ⟨g0, x, none⟩ (.int .i64 (u + 1))).frozen? ⟨g0, y, none⟩ = false := by simpa using k5
        have hzs' : w2.heap.size ≤ ((wr.setCell ⟨g0, x, none⟩ (.int .i64 (u + 1))).setCell ⟨g0, y, none⟩ (.int .i64 (v + 1))).heap.size := by rw [setCell_size, setCell_size]; exact hzr
        have K3 := Lib.hid k3
        have K6 := Lib.hid k6
        have Hbs := Lib.hid hbs
        have Ho3 := Lib.hid ho3
        clear k3 k6 hbs ho3
        clear hu hv hia hcaw g0w g1w hew hpa hpb hbs0 k5
        go_wp2
        go_roundw
        case rel => exact ⟨j + 1, _, by omega, by go_num, by rw [addAt_len, addAt_len]; exact Hlo.out, Hbd2.out, HS1.out, Ho3.out, Hbs.out, hzs'⟩
        case measure => simp [intOf]; omega
      · rw [ptA2, ptB2] at HS1 Hbd2
        rw [addAt_zero] at HS1 Hbd2
        obtain ⟨u, k1, k2, k3, ho3⟩ := one_add Ho.out hyo 3
        have hu := Hbd.out u (getD_mem hyo k3)
        have wu : IntKind.i64.wrap (u + 3) = u + 3 := IntWalk.i64_in _ (by omega)
        have e1' := keep_of_below Hdn.out _ _ g1w
        have hbs := (Hdn.out.setCell (p := ⟨g0, y, none⟩) hg0 (.int .i64 (u + 3))).drew
        have Ho4 : Hid (Own 3 w.heap.size w2.heap.size (wr.setCell ⟨g0, y, none⟩ (.int .i64 (u + 3))).drew (some ⟨g0, 0, none⟩) cc ((addAt out y 3).map (.int .i64))) := Lib.hid ho3
        have hzs' : w2.heap.size ≤ (wr.setCell ⟨g0, y, none⟩ (.int .i64 (u + 3))).drew.heap.size := by show w2.heap.size ≤ (wr.setCell ⟨g0, y, none⟩ (.int .i64 (u + 3))).heap.size; rw [setCell_size]; exact hzr
        have K3 := Lib.hid k3
        have Hbs := Lib.hid hbs
        have Ho3 := Lib.hid ho3
        clear k3 hbs ho3
        clear hu hia hcaw g0w g1w hew hpa hpb
        go_wp2
        go_still_tail 12, (by kernel_rfl)
        go_wp2
        go_roundw
        case rel => exact ⟨j + 1, _, by omega, by go_num, by rw [addAt_len]; exact Hlo.out, Hbd2.out, HS1.out, Ho4.out, Hbs.out, hzs'⟩
        case measure => simp [intOf]; omega
    · obtain rfl : j = games.length := by omega
      have HS1 : Hid (out = R) := Lib.hid (by have := HS.out; rwa [List.drop_length, afterD] at this)
      go_wp2
      go_ret
      rw [← HS1.out]
      exact ⟨some ⟨g0, 0, none⟩, cc, by rw [Hlo.out]; rfl, Ho.out.wide (Nat.le_refl _) hzr, Hdn.out⟩

def afterDayF (points : List Int) (games : List (List Int)) (ending : List Int) : List Int :=
  if dayOk points games = true ∧ ending.length = games.length ∧ ending.all (fun e => inR e 0 2) = true then afterD points games ending else []
theorem all_range {xs : List Int} {lo hi : Int} (h : xs.all (fun e => inR e lo hi) = true) : ∀ e ∈ xs, lo ≤ e ∧ e ≤ hi := fun e he => inR_true (by rw [List.all_eq_true] at h; exact h e he)

set_option maxHeartbeats 1000000 in
theorem iAfterDay_c (A B D : Option Addr) (c d f : Nat) (points : List Int) (games : List (List Int)) (ending : List Int) (w : World) (ha : Ints w A points) (hb : Rows w B games) (hd : Ints w D ending) (hm : points.length ≤ 1048576) (hm2 : ending.length ≤ 1048576) :
    Calls Try.prog 21 #[.slice A points.length c, .slice B games.length d, .slice D ending.length f] w (GivesI 3 w (afterDayF points games ending)) := by
  generalize hR : afterDayF points games ending = R
  have HR := Lib.hid hR
  clear hR
  have Ha := Lib.hid ha
  have Hb := Lib.hid hb
  have Hd := Lib.hid hd
  clear ha hb hd
  cases h1 : dayOk points games
  · have HS : Hid ([] = R) := Lib.hid (by rw [← HR.out]; simp [afterDayF, h1])
    have H1 := Lib.hid h1
    clear h1
    go_enter Try.func21, Try.ntmps21
    go_wp2_with fail
    refine (gives_v (iDayOk_c _ _ _ _ _ _ _ Ha.out Hb.out hm) (congrArg Value.bool H1.out)).mono ?_
    rintro e w1 ⟨rfl, hb1⟩
    go_wp2
    go_ret
    rw [← HS.out]
    exact ⟨none, 0, rfl, Own.nil .., hb1⟩
  · by_cases h2 : ending.length = games.length
    · have h2' : ((ending.length : Int) != (games.length : Int)) = false := by simp [h2]
      cases h3 : ending.all (fun e => inR e 0 2)
      · have HS : Hid ([] = R) := Lib.hid (by rw [← HR.out]; unfold afterDayF; rw [if_neg]; rintro ⟨_, _, h⟩; rw [h3] at h; cases h)
        have H1 := Lib.hid h1
        have H2 := Lib.hid h2
        have H3 := Lib.hid h3
        clear h1 h2 h3
        go_enter Try.func21, Try.ntmps21
        go_wp2_with fail
        refine (gives_v (iDayOk_c _ _ _ _ _ _ _ Ha.out Hb.out hm) (congrArg Value.bool H1.out)).mono ?_
        rintro e w1 ⟨rfl, hb1⟩
        have Hb1 := Lib.hid hb1
        clear hb1
        go_wp2_with fail
        refine (gives_v (allWithin_c _ _ _ _ _ _ (Hd.out.keep (keep_of_below Hb1.out)) hm2) (congrArg Value.bool H3.out)).mono ?_
        rintro e w2 ⟨rfl, hb2⟩
        go_wp2
        go_ret
        rw [← HS.out]
        exact ⟨none, 0, rfl, Own.nil .., Hb1.out.trans (hb2.mono Hb1.out.size)⟩
      · have HS : Hid (afterD points games ending = R) := Lib.hid (by rw [← HR.out]; unfold afterDayF; rw [if_pos ⟨h1, h2, h3⟩])
        have hday := day_of h1
        have hen := all_range h3
        have H1 := Lib.hid h1
        have H2 := Lib.hid h2
        have H3 := Lib.hid h3
        have Hday := Lib.hid hday
        have Hen := Lib.hid hen
        clear h1 h2 h3 hday hen
        go_enter Try.func21, Try.ntmps21
        go_wp2_with fail
        refine (gives_v (iDayOk_c _ _ _ _ _ _ _ Ha.out Hb.out hm) (congrArg Value.bool H1.out)).mono ?_
        rintro e w1 ⟨rfl, hb1⟩
        have Hb1 := Lib.hid hb1
        clear hb1
        go_wp2_with fail
        refine (gives_v (allWithin_c _ _ _ _ _ _ (Hd.out.keep (keep_of_below Hb1.out)) hm2) (congrArg Value.bool H3.out)).mono ?_
        rintro e w2 ⟨rfl, hb2⟩
        have Hb2 := Lib.hid (Hb1.out.trans (hb2.mono Hb1.out.size))
        clear hb2
        go_wp2_with fail
        refine (afterDay_c _ _ _ _ _ _ _ _ _ _ (Ha.out.keep (keep_of_below Hb2.out)) (Hb.out.keep (keep_of_below Hb2.out)) (Hd.out.keep (keep_of_below Hb2.out)) Hday.out.2 Hday.out.1 H2.out Hen.out).mono ?_
        rintro e w3 ⟨C, cc, rfl, ho3, hb3⟩
        go_wp2
        go_ret
        rw [← HS.out]
        exact ⟨C, cc, rfl, ho3.wide Hb2.out.size (Nat.le_refl _), Hb2.out.trans (hb3.mono Hb2.out.size)⟩
    · have h2' : ((ending.length : Int) != (games.length : Int)) = true := by simp; omega
      have HS : Hid ([] = R) := Lib.hid (by rw [← HR.out]; unfold afterDayF; rw [if_neg]; rintro ⟨_, h, _⟩; exact h2 h)
      have H1 := Lib.hid h1
      have H2 := Lib.hid h2
      clear h1 h2
      go_enter Try.func21, Try.ntmps21
      go_wp2_with fail
      refine (gives_v (iDayOk_c _ _ _ _ _ _ _ Ha.out Hb.out hm) (congrArg Value.bool H1.out)).mono ?_
      rintro e w1 ⟨rfl, hb1⟩
      go_wp2
      go_ret
      rw [← HS.out]
      exact ⟨none, 0, rfl, Own.nil .., hb1⟩

set_option maxHeartbeats 1000000 in
theorem sAfterDay_c (A B D : Option Addr) (c d f : Nat) (points : List Int) (games : List (List Int)) (ending : List Int) (w : World) (ha : Ints w A points) (hb : Rows w B games) (hd : Ints w D ending) (hm : points.length ≤ 1048576) (_hm2 : ending.length ≤ 1048576) :
    Calls Try.prog 20 #[.slice A points.length c, .slice B games.length d, .slice D ending.length f] w (GivesI 3 w (afterDayF points games ending)) := by
  generalize hR : afterDayF points games ending = R
  have HR := Lib.hid hR
  clear hR
  have Ha := Lib.hid ha
  have Hb := Lib.hid hb
  have Hd := Lib.hid hd
  clear ha hb hd
  cases h1 : dayOk points games
  · have HS : Hid ([] = R) := Lib.hid (by rw [← HR.out]; simp [afterDayF, h1])
    have H1 := Lib.hid h1
    clear h1
    go_enter Try.func20, Try.ntmps20
    go_wp2_with fail
    refine (calls_v (sDayOk_c _ _ _ _ _ _ _ Ha.out Hb.out hm) (congrArg Value.bool H1.out)).mono ?_
    rintro e w1 ⟨rfl, hb1⟩
    go_wp2
    go_ret
    rw [← HS.out]
    exact ⟨none, 0, rfl, Own.nil .., hb1.below _⟩
  · by_cases h2 : ending.length = games.length
    · have h2' : ((ending.length : Int) != (games.length : Int)) = false := by simp [h2]
      have hday := day_of h1
      have HS : Hid ((if ending.all (fun e => inR e 0 2) = true then afterD points games ending else []) = R) := Lib.hid (by
        rw [← HR.out]; unfold afterDayF
        by_cases h3 : ending.all (fun e => inR e 0 2) = true
        · rw [if_pos h3, if_pos ⟨h1, h2, h3⟩]
        · rw [if_neg h3, if_neg (fun h => h3 h.2.2)])
      have H1 := Lib.hid h1
      have H2 := Lib.hid h2
      have Hday := Lib.hid hday
      clear h1 h2 hday
      go_enter Try.func20, Try.ntmps20
      go_wp2_with fail
      refine (calls_v (sDayOk_c _ _ _ _ _ _ _ Ha.out Hb.out hm) (congrArg Value.bool H1.out)).mono ?_
      rintro e w1 ⟨rfl, hb1⟩
      have Hb1 := Lib.hid hb1
      clear hb1
      go_wp2
      go_loopw [22] (fun i wr => ∃ k : Nat, k ≤ ending.length ∧ i = .int .i64 k ∧ (∀ e ∈ ending.take k, 0 ≤ e ∧ e ≤ 2) ∧ Dr w wr) (fun i _ => ending.length - (intOf i).toNat)
      case atStart => exact ⟨0, Nat.zero_le _, rfl, fun e he => by simp at he, Hb1.out⟩
      case round =>
        obtain ⟨k, hk, rfl, hin, hd⟩ := hrel
        have Hin := Lib.hid hin
        clear hin
        have Hdr := Lib.hid hd
        clear hd
        by_cases hlt : k < ending.length
        · obtain ⟨v, hv⟩ := some_of hlt
          obtain ⟨ad, rfl, hca⟩ := Hd.out.keep Hdr.out.keep k v hv
          cases hc : inR v 0 2
          · have HS3 : Hid ([] = R) := Lib.hid (by
              have := HS.out
              rw [if_neg] at this
              · exact this
              · intro h; rw [List.all_eq_true] at h; rw [h v (List.mem_of_getElem? hv)] at hc; cases hc)
            have Hc := Lib.hid hc
            have Hv := Lib.hid hv
            clear hc hv
            go_wp2_with fail
            refine (calls_v (l01In_c _ _ _ _) (congrArg Value.bool Hc.out)).mono ?_
            rintro e w2 ⟨rfl, hq⟩
            go_wp2
            go_ret
            rw [← HS3.out]
            exact ⟨none, 0, rfl, Own.nil .., (Hdr.out.trans hq).below _⟩
          · have hin2 : ∀ e ∈ ending.take (k + 1), 0 ≤ e ∧ e ≤ 2 := fun e he => by
              rw [take_of hv] at he
              rcases List.mem_append.1 he with he | he
              · exact Hin.out e he
              · rw [List.mem_singleton] at he; rw [he]; exact inR_true hc
            have Hc := Lib.hid hc
            have Hv := Lib.hid hv
            have Hin2 := Lib.hid hin2
            clear hc hv hin2
            go_wp2_with fail
            refine (calls_v (l01In_c _ _ _ _) (congrArg Value.bool Hc.out)).mono ?_
            rintro e w2 ⟨rfl, hq⟩
            have Hq2 := Lib.hid hq
            clear hq
            go_wp2
            go_roundw
            case rel => exact ⟨k + 1, by omega, by go_num, Hin2.out, Hdr.out.trans Hq2.out⟩
            case measure => simp [intOf]; omega
        · obtain rfl : k = ending.length := by omega
          have hen : ∀ e ∈ ending, 0 ≤ e ∧ e ≤ 2 := fun e he => Hin.out e (by rw [List.take_length]; exact he)
          have HS2 : Hid (afterD points games ending = R) := Lib.hid (by
            have := HS.out
            rwa [if_pos] at this
            rw [List.all_eq_true]
            intro e he
            have := hen e he
            simp [inR]; omega)
          have Hen := Lib.hid hen
          clear hen
          go_wp2_with fail
          refine (l15After_c _ _ _ _ _ _ _ _ _ _ (Ha.out.keep Hdr.out.keep) (Hb.out.keep Hdr.out.keep) (Hd.out.keep Hdr.out.keep) Hday.out.2 Hday.out.1 H2.out Hen.out).mono ?_
          rintro e w3 ⟨C, cc, rfl, ho3, hb3⟩
          go_wp2
          go_ret
          rw [← HS2.out]
          exact ⟨C, cc, rfl, ho3.wide (Hdr.out.below 0).size (Nat.le_refl _), dr_below Hdr.out hb3⟩
    · have h2' : ((ending.length : Int) != (games.length : Int)) = true := by simp; omega
      have HS : Hid ([] = R) := Lib.hid (by rw [← HR.out]; unfold afterDayF; rw [if_neg]; rintro ⟨_, h, _⟩; exact h2 h)
      have H1 := Lib.hid h1
      have H2 := Lib.hid h2
      clear h1 h2
      go_enter Try.func20, Try.ntmps20
      go_wp2_with fail
      refine (calls_v (sDayOk_c _ _ _ _ _ _ _ Ha.out Hb.out hm) (congrArg Value.bool H1.out)).mono ?_
      rintro e w1 ⟨rfl, hb1⟩
      go_wp2
      go_ret
      rw [← HS.out]
      exact ⟨none, 0, rfl, Own.nil .., hb1.below _⟩
end Go.Proofs.Yteigcfcabmoghaa
