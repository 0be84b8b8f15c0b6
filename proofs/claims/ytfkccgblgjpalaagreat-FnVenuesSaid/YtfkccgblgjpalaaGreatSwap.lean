
/- Contracts: double plans; a plan with two rounds exchanged (program and reference). -/
import Derived.Test.YtfkccgblgjpalaaGreatTurn
import Derived.BigRegion
namespace Go.Proofs.YtfkccgblgjpalaaGreat
open Go.RowKit

theorem slice_one {vs : List Value} {hs : List (Option Addr × Nat)} {xss : List (List Int)} (h : vs = List.zipWith hdr hs xss) : ∀ u ∈ vs, u.oneCell' = true := by
  subst h
  intro u hu
  obtain ⟨k, hk⟩ := List.getElem?_of_mem hu
  rw [List.getElem?_zipWith] at hk
  cases h1 : hs[k]? <;> cases h2 : xss[k]? <;> rw [h1, h2] at hk <;> simp [hdr] at hk
  subst hk; rfl

theorem wpList_app22 {P : Program} {wr : World} {ops : Array Oper} {rest : List Oper} {o : Oper} {a : Act} {Q : Exit → Act → World → Prop} (hgd : o.guard = none) (s x : Operand) (t : TypeId)
    (ho : o.op = .call { callee := .builtin .append, args := #[s, x], argTypes := #[t, t] }) (T TT : TypeId) (ht : P.underlying t = some (.slice TT))
    (hinfo : (P.info? TT).map (fun i => (i.zero, i.size, i.bytes)) = some (some (.slice none 0 0), 1, 24)) (hT : T ≠ TT) (lo mid : Nat) (A B : Option Addr) (c d : Nat) (xss yss : List (List Int))
    (h1 : Own2 T TT lo mid wr A c xss) (h2 : Own2 T TT mid wr.heap.size wr B d yss) (hlo : lo ≤ mid) (hmid : mid ≤ wr.heap.size) (hl1 : xss.length ≤ 1048576) (hl2 : yss.length ≤ 1048576)
    (n m : Nat) (hn : n = xss.length) (hm : m = yss.length) (hs : a.eval s = .slice A n c) (hx : a.eval x = .slice B m d)
    (h : ∀ A' c' w', Own2 T TT lo w'.heap.size w' A' c' (xss ++ yss) → Below lo wr w' → wr.heap.size ≤ w'.heap.size → wpList P ops Q rest (a.put o.dst (.slice A' (n + m) c')) w') :
    wpList P ops Q (o :: rest) a wr := by
  obtain ⟨hh, ho1, hi1⟩ := h1
  obtain ⟨gg, ho2, hi2⟩ := h2
  refine wpList_appN hgd s x t ho TT (.slice none 0 0) 24 ht hinfo rfl lo A c (List.zipWith hdr hh xss) (ho1.wide (Nat.le_refl _) hmid) (by omega) B d (List.zipWith hdr gg yss) ho2.cells (slice_one rfl) (by rw [zip_length hi1.len]; exact hl1) (by rw [zip_length hi2.len]; exact hl2) (by decide) n m (by rw [zip_length hi1.len]; exact hn) (by rw [zip_length hi2.len]; exact hm) hs hx ?_
  intro A' c' w' ho' hb' hg' hz'
  refine h A' c' w' ⟨hh ++ gg, by rw [List.zipWith_append hi1.len]; exact ho', ?_⟩ hb' hz'
  have hI := hi1.append hi2 hlo hmid
  exact (hI.grown hg' (ho1.wide (Nat.le_refl _) hmid) hT (Nat.le_refl _)).wide (Nat.le_refl _) hz'

def doubleOf (n : Int) (plan : List (List Int)) : List (List Int) := if planOk n plan && decide (plan.length ≤ 18) then plan ++ turn plan else []
theorem neg_small {xs : List Int} (h : ∀ x ∈ xs, -1000 ≤ x ∧ x ≤ 1000) : ∀ x ∈ neg xs, -1000 ≤ x ∧ x ≤ 1000 := fun x hx => by
  obtain ⟨y, hy, rfl⟩ := List.mem_map.1 hx
  have := h y hy; omega
theorem turn_small {xss : List (List Int)} (h : ∀ xs ∈ xss, xs.length ≤ 1048576 ∧ ∀ x ∈ xs, -1000 ≤ x ∧ x ≤ 1000) : ∀ xs ∈ turn xss, xs.length ≤ 1048576 ∧ ∀ x ∈ xs, -1000 ≤ x ∧ x ≤ 1000 := fun xs hx => by
  obtain ⟨ys, hy, rfl⟩ := List.mem_map.1 hx
  exact ⟨by simpa [neg] using (h ys hy).1, neg_small (h ys hy).2⟩
theorem turn_length (xss : List (List Int)) : (turn xss).length = xss.length := by simp [turn]

set_option maxHeartbeats 1000000 in
theorem iDoublePlan_c (n : Int) (A : Option Addr) (c : Nat) (plan : List (List Int)) (w : World) (ha : Rows w A plan) (hm : plan.length ≤ 1048576) :
    Calls Tryz.prog 15 #[.int .i64 n, .slice A plan.length c] w (GivesII 3 36 w (doubleOf n plan)) := by
  have Ha := Lib.hid ha
  clear ha
  cases hp : planOk n plan
  · have hv : doubleOf n plan = [] := by rw [doubleOf, if_neg (by simp [hp])]
    rw [hv]
    have Hp := Lib.hid hp
    clear hp
    clear hv
    go_enter Tryz.func15, Tryz.ntmps15
    go_wp2_with fail
    refine (calls_v (iPlanOk_c _ _ _ _ _ Ha.out hm) (congrArg Value.bool Hp.out)).mono ?_
    rintro e w1 ⟨rfl, hq⟩
    go_wp2
    go_ret
    exact ⟨none, 0, rfl, Own2.nil .., hq.below _⟩
  · have hP := plan_of hp
    have h36 := hP.len
    by_cases hl : plan.length ≤ 18
    · have hv : doubleOf n plan = plan ++ turn plan := by rw [doubleOf, if_pos (by simp [hp, hl])]
      rw [hv]
      have Hp := Lib.hid hp
      have HP := Lib.hid hP
      clear hp hP
      clear hv
      go_enter Tryz.func15, Tryz.ntmps15
      go_wp2_with fail
      refine (calls_v (iPlanOk_c _ _ _ _ _ Ha.out hm) (congrArg Value.bool Hp.out)).mono ?_
      rintro e w1 ⟨rfl, hq⟩
      have hs1 := (hq.below 0).size
      have Hq := Lib.hid hq
      clear hq
      go_wp2_with fail
      refine (copyPlan_c _ _ _ _ (Ha.out.keep Hq.out.keep) hm (fun xs h => (plan_small HP.out xs h).1)).mono ?_
      rintro e w2 ⟨B, d, rfl, ho, hb⟩
      have hs2 := hb.size
      have Ho := Lib.hid ho
      have Hb := Lib.hid hb
      clear ho hb
      go_wp2_with fail
      refine (turnPlan_c _ _ _ _ ((Ha.out.keep Hq.out.keep).keep (keep_of_below Hb.out)) hm (plan_small HP.out)).mono ?_
      rintro e w3 ⟨B2, d2, rfl, ho2, hb2⟩
      have hs3 := hb2.size
      have Ho2 := Lib.hid ho2
      have Hb2 := Lib.hid hb2
      clear ho2 hb2
      go_wp2_with (at_builtin; refine wpList_app22 rfl (.tmp 16) (.tmp 18) 24 rfl 3 36 Tryz.underlying24 info_ints info_rows_ne w1.heap.size w2.heap.size B B2 d d2 plan (turn plan) ?_ ?_ ?_ ?_ ?_ ?_ plan.length (turn plan).length rfl rfl ?_ ?_ ?_; exact Ho.out.below Hb2.out; exact Ho2.out; exact hs2; exact hs3; omega; (rw [turn_length]; omega); rfl; rfl; intro A' c' w' ho' hb' hz')
      go_ret
      exact ⟨A', c', by simp, ho'.wide hs1 (Nat.le_refl _), (Hq.out.below _).trans ((Hb.out.mono hs1).trans ((Hb2.out.mono (by omega)).trans (hb'.mono hs1)))⟩
    · have hv : doubleOf n plan = [] := by rw [doubleOf, if_neg (by simp; omega)]
      rw [hv]
      have Hp := Lib.hid hp
      have HP := Lib.hid hP
      clear hp hP
      clear hv
      go_enter Tryz.func15, Tryz.ntmps15
      go_wp2_with fail
      refine (calls_v (iPlanOk_c _ _ _ _ _ Ha.out hm) (congrArg Value.bool Hp.out)).mono ?_
      rintro e w1 ⟨rfl, hq⟩
      go_wp2
      go_ret
      exact ⟨none, 0, rfl, Own2.nil .., hq.below _⟩

set_option maxHeartbeats 1000000 in
theorem sDoublePlan_c (n : Int) (A : Option Addr) (c : Nat) (plan : List (List Int)) (w : World) (ha : Rows w A plan) (hm : plan.length ≤ 1048576) :
    Calls Tryz.prog 69 #[.int .i64 n, .slice A plan.length c] w (GivesII 3 36 w (doubleOf n plan)) := by
  have Ha := Lib.hid ha
  clear ha
  cases hp : planOk n plan
  · have hv : doubleOf n plan = [] := by rw [doubleOf, if_neg (by simp [hp])]
    rw [hv]
    have Hp := Lib.hid hp
    clear hp
    clear hv
    go_enter Tryz.func69, Tryz.ntmps69
    go_wp2_with fail
    refine (calls_v (sPlanOk_c _ _ _ _ _ Ha.out hm) (congrArg Value.bool Hp.out)).mono ?_
    rintro e w1 ⟨rfl, hq⟩
    go_wp2
    go_ret
    exact ⟨none, 0, rfl, Own2.nil .., hq.below _⟩
  · have hP := plan_of hp
    have h36 := hP.len
    by_cases hl : plan.length ≤ 18
    · have hv : doubleOf n plan = turn (turn plan) ++ turn plan := by rw [doubleOf, if_pos (by simp [hp, hl]), turn_turn]
      rw [hv]
      have hl2 := turn_length (turn plan)
      have hl1 := turn_length plan
      have Hp := Lib.hid hp
      have HP := Lib.hid hP
      have Hl1 := Lib.hid hl1
      have Hl2 := Lib.hid hl2
      clear hp hP hl1 hl2
      clear hv
      go_enter Tryz.func69, Tryz.ntmps69
      go_wp2_with fail
      refine (calls_v (sPlanOk_c _ _ _ _ _ Ha.out hm) (congrArg Value.bool Hp.out)).mono ?_
      rintro e w1 ⟨rfl, hq⟩
      have hs1 := (hq.below 0).size
      have Hq := Lib.hid hq
      clear hq
      go_wp2_with fail
      refine (l16Turn_c _ _ _ _ (Ha.out.keep Hq.out.keep) hm (plan_small HP.out)).mono ?_
      rintro e w2 ⟨B, d, rfl, ho, hb⟩
      have hs2 := hb.size
      have Ho := Lib.hid ho
      have Hb := Lib.hid hb
      clear ho hb
      go_wp2_with fail
      refine (l16Turn_c _ _ _ _ Ho.out.rows (by rw [Hl1.out]; omega) (turn_small (plan_small HP.out))).mono ?_
      rintro e w3 ⟨B2, d2, rfl, ho2, hb2⟩
      have hs3 := hb2.size
      have Ho2 := Lib.hid ho2
      have Hb2 := Lib.hid hb2
      clear ho2 hb2
      go_wp2_with fail
      refine (l16Turn_c _ _ _ _ (((Ha.out.keep Hq.out.keep).keep (keep_of_below Hb.out)).keep (keep_of_below Hb2.out)) hm (plan_small HP.out)).mono ?_
      rintro e w4 ⟨B3, d3, rfl, ho3, hb3⟩
      have hs4 := hb3.size
      have Ho3 := Lib.hid ho3
      have Hb3 := Lib.hid hb3
      clear ho3 hb3
      go_wp2_with (at_builtin; refine wpList_app22 rfl (.tmp 16) (.tmp 18) 24 rfl 3 36 Tryz.underlying24 info_ints info_rows_ne w2.heap.size w3.heap.size B2 B3 d2 d3 (turn (turn plan)) (turn plan) ?_ ?_ ?_ ?_ ?_ ?_ (turn (turn plan)).length (turn plan).length rfl rfl ?_ ?_ ?_; exact Ho2.out.below Hb3.out; exact Ho3.out; exact hs3; exact hs4; (rw [Hl2.out, Hl1.out]; omega); (rw [Hl1.out]; omega); rfl; rfl; intro A' c' w' ho' hb' hz')
      go_ret
      exact ⟨A', c', by simp, ho'.wide (by omega) (Nat.le_refl _), (Hq.out.below _).trans ((Hb.out.mono hs1).trans ((Hb2.out.mono (by omega)).trans ((Hb3.out.mono (by omega)).trans (hb'.mono (by omega)))))⟩
    · have hv : doubleOf n plan = [] := by rw [doubleOf, if_neg (by simp; omega)]
      rw [hv]
      have Hp := Lib.hid hp
      have HP := Lib.hid hP
      clear hp hP
      clear hv
      go_enter Tryz.func69, Tryz.ntmps69
      go_wp2_with fail
      refine (calls_v (sPlanOk_c _ _ _ _ _ Ha.out hm) (congrArg Value.bool Hp.out)).mono ?_
      rintro e w1 ⟨rfl, hq⟩
      go_wp2
      go_ret
      exact ⟨none, 0, rfl, Own2.nil .., hq.below _⟩

/-! ### Two rounds exchanged -/
def swapOk (n : Int) (plan : List (List Int)) (r s : Int) : Bool := planOk n plan && inR r 0 (plan.length - 1) && inR s 0 (plan.length - 1)
def swapOf (n : Int) (plan : List (List Int)) (r s : Int) : List (List Int) := if swapOk n plan r s then swp plan r.toNat s.toNat else []
/-- The two stores of an exchange, on rows of rows. -/
theorem Own2.swap {T TT : TypeId} {lo hi : Nat} {w : World} {A : Option Addr} {c : Nat} {xss : List (List Int)} {r s : Nat} (h : Own2 T TT lo hi w A c xss) (hr : r < xss.length) (hs : s < xss.length) (hT : T ≠ TT) :
    ∃ g a b m p d e, A = some ⟨g, 0, none⟩ ∧ lo ≤ g ∧ w.cell? ⟨g, r, none⟩ = some (.slice a m d) ∧ w.cell? ⟨g, s, none⟩ = some (.slice b p e) ∧ w.frozen? ⟨g, r, none⟩ = false ∧ w.frozen? ⟨g, s, none⟩ = false ∧
      (w.setCell ⟨g, r, none⟩ (.slice b p e)).cell? ⟨g, s, none⟩ = some (.slice b p e) ∧
      Own2 T TT lo hi ((w.setCell ⟨g, r, none⟩ (.slice b p e)).setCell ⟨g, s, none⟩ (.slice a m d)) A c (swp xss r s) := by
  obtain ⟨hh, ho, hin⟩ := h
  obtain ⟨x, hx⟩ := some_of hr
  obtain ⟨y, hy⟩ := some_of hs
  obtain ⟨u, hu⟩ := some_of (l := hh) (k := r) (by rw [hin.len]; exact hr)
  obtain ⟨v, hv⟩ := some_of (l := hh) (k := s) (by rw [hin.len]; exact hs)
  obtain ⟨g, rfl, hg, hg', hc1, hf1⟩ := ho.at_ (zip_some hu hx)
  obtain ⟨g2, e2, _, _, hc2, hf2⟩ := ho.at_ (zip_some hv hy)
  obtain rfl : g = g2 := by injection e2 with e2; injection e2
  have h1 := ho.set_ r (hdr v y)
  have h2 := h1.set_ s (hdr u x)
  have hz := zip_length hin.len
  have hsw : ((List.zipWith hdr hh xss).set r (hdr v y)).set s (hdr u x) = List.zipWith hdr (swp hh r s) (swp xss r s) := by
    rw [swp_zip hin.len hr hs]
    unfold swp
    rw [zip_some hu hx, zip_some hv hy]
  rw [hsw] at h2
  have hcs : (w.setCell ⟨g, r, none⟩ (hdr v y)).cell? ⟨g, s, none⟩ = some (hdr v y) := by
    have hk : ((List.zipWith hdr hh xss).set r (hdr v y))[s]? = some (hdr v y) := by
      rw [List.getElem?_set]
      split
      · rw [if_pos (by omega)]
      · exact zip_some hv hy
    obtain ⟨g3, e3, _, _, hc3, _⟩ := h1.at_ hk
    obtain rfl : g = g3 := by injection e3 with e3; injection e3
    exact hc3
  refine ⟨g, u.1, v.1, x.length, y.length, u.2, v.2, rfl, hg, hc1, hc2, hf1, hf2, hcs, swp hh r s, h2, ?_⟩
  have hI := hin.swap hr hs
  refine ⟨hI.len, fun k z xs e1 e4 => ?_, hI.apart⟩
  obtain ⟨f1, f2, f3⟩ := hI.own k z xs e1 e4
  refine ⟨f1, f2, ?_⟩
  rcases f3 with f3 | ⟨q, cs, p1, p2, p3, p4, p5⟩
  · exact .inl f3
  · refine .inr ⟨q, cs, p1, p2, p3, ?_, p5⟩
    have hne : q ≠ g := by
      rintro rfl
      obtain ⟨_, _, o3⟩ := ho
      rcases o3 with ⟨o, _⟩ | ⟨g', cs', o, _, _, o4, _⟩
      · cases o
      · injection o with o
        injection o with o
        subst o
        rw [p4] at o4
        injection o4 with o4
        injection o4 with _ o5
        exact hT o5
    rw [Below.heap_setCell _ ⟨g, s, none⟩ _ q hne, Below.heap_setCell _ ⟨g, r, none⟩ _ q hne]
    exact p4

set_option maxHeartbeats 2000000 in
theorem iSwapRounds_c (n : Int) (A : Option Addr) (c : Nat) (plan : List (List Int)) (r s : Int) (w : World) (ha : Rows w A plan) (hm : plan.length ≤ 1048576) :
    Calls Tryz.prog 17 #[.int .i64 n, .slice A plan.length c, .int .i64 r, .int .i64 s] w (GivesII 3 36 w (swapOf n plan r s)) := by
  have Ha := Lib.hid ha
  clear ha
  cases hp : planOk n plan
  · have hv : swapOf n plan r s = [] := by rw [swapOf, if_neg (by simp [swapOk, hp])]
    rw [hv]
    have Hp := Lib.hid hp
    clear hp
    clear hv
    go_enter Tryz.func17, Tryz.ntmps17
    go_wp2_with fail
    refine (calls_v (iPlanOk_c _ _ _ _ _ Ha.out hm) (congrArg Value.bool Hp.out)).mono ?_
    rintro e w1 ⟨rfl, hq⟩
    go_wp2
    go_ret
    exact ⟨none, 0, rfl, Own2.nil .., hq.below _⟩
  · have hP := plan_of hp
    have h36 := hP.len
    have Hp := Lib.hid hp
    clear hp
    cases hr : inR r 0 (plan.length - 1)
    · have hv : swapOf n plan r s = [] := by rw [swapOf, if_neg (by simp [swapOk, hr])]
      rw [hv]
      have Hr := Lib.hid hr
      have HP := Lib.hid hP
      clear hr hP
      clear hv
      go_enter Tryz.func17, Tryz.ntmps17
      go_wp2_with fail
      refine (calls_v (iPlanOk_c _ _ _ _ _ Ha.out hm) (congrArg Value.bool Hp.out)).mono ?_
      rintro e w1 ⟨rfl, hq⟩
      have Hq := Lib.hid hq
      clear hq
      go_wp2_with fail
      refine (calls_v (within_c _ _ _ _) (congrArg Value.bool Hr.out)).mono ?_
      rintro e w2 ⟨rfl, hq⟩
      go_wp2
      go_ret
      exact ⟨none, 0, rfl, Own2.nil .., (Hq.out.trans hq).below _⟩
    · cases hs : inR s 0 (plan.length - 1)
      · have hv : swapOf n plan r s = [] := by rw [swapOf, if_neg (by simp [swapOk, hs])]
        rw [hv]
        have Hr := Lib.hid hr
        have Hs := Lib.hid hs
        have HP := Lib.hid hP
        clear hr hs hP
        clear hv
        go_enter Tryz.func17, Tryz.ntmps17
        go_wp2_with fail
        refine (calls_v (iPlanOk_c _ _ _ _ _ Ha.out hm) (congrArg Value.bool Hp.out)).mono ?_
        rintro e w1 ⟨rfl, hq⟩
        have Hq := Lib.hid hq
        clear hq
        go_wp2_with fail
        refine (calls_v (within_c _ _ _ _) (congrArg Value.bool Hr.out)).mono ?_
        rintro e w2 ⟨rfl, hq⟩
        have Hq2 := Lib.hid hq
        clear hq
        go_wp2_with fail
        refine (calls_v (within_c _ _ _ _) (congrArg Value.bool Hs.out)).mono ?_
        rintro e w3 ⟨rfl, hq⟩
        go_wp2
        go_ret
        exact ⟨none, 0, rfl, Own2.nil .., ((Hq.out.trans Hq2.out).trans hq).below _⟩
      · have hv : swapOf n plan r s = swp plan r.toNat s.toNat := by rw [swapOf, if_pos (by simp [swapOk, hr, hs, Hp.out])]
        rw [hv]
        clear hv
        obtain ⟨hr1, hr2⟩ := inR_true hr
        obtain ⟨hs1, hs2⟩ := inR_true hs
        obtain ⟨r, rfl⟩ := Int.eq_ofNat_of_zero_le hr1
        obtain ⟨s, rfl⟩ := Int.eq_ofNat_of_zero_le hs1
        have hrl : r < plan.length := by omega
        have hsl : s < plan.length := by omega
        have Hr := Lib.hid hr
        have Hs := Lib.hid hs
        have HP := Lib.hid hP
        clear hr hs hP
        simp only [Int.toNat_natCast]
        go_enter Tryz.func17, Tryz.ntmps17
        go_wp2_with fail
        refine (calls_v (iPlanOk_c _ _ _ _ _ Ha.out hm) (congrArg Value.bool Hp.out)).mono ?_
        rintro e w1 ⟨rfl, hq⟩
        have Hq := Lib.hid hq
        clear hq
        go_wp2_with fail
        refine (calls_v (within_c _ _ _ _) (congrArg Value.bool Hr.out)).mono ?_
        rintro e w2 ⟨rfl, hq⟩
        have Hq2 := Lib.hid hq
        clear hq
        go_wp2_with fail
        refine (calls_v (within_c _ _ _ _) (congrArg Value.bool Hs.out)).mono ?_
        rintro e w3 ⟨rfl, hq⟩
        have hq3 := (Hq.out.trans Hq2.out).trans hq
        clear hq
        have z1 := (hq3.below 0).size
        have Hq3 := Lib.hid hq3
        clear hq3
        go_wp2_with fail
        refine (copyPlan_c _ _ _ _ (Ha.out.keep Hq3.out.keep) hm (fun xs h => (plan_small HP.out xs h).1)).mono ?_
        rintro e w4 ⟨B, d, rfl, ho, hb⟩
        obtain ⟨g, a, b, m, p, da, db, rfl, hg, hc1, hc2, hf1, hf2, hc3, hO⟩ := ho.swap hrl hsl (by decide)
        have hsz := hb.size
        have Hb := Lib.hid hb
        have HO := Lib.hid hO
        clear hb hO
        clear ho
        go_wp2
        go_region
        all_goals
          go_wp2
          go_ret
          exact ⟨_, d, by rw [swp_length]; rfl, Own2.wide (Own2.below HO.out (Below.refl _ _).drew) z1 (by simp [World.setCell]), (Hq3.out.below _).trans ((Hb.out.mono z1).trans ((((Below.refl _ _).setCell (p := ⟨g, r, none⟩) (by show w.heap.size ≤ g; omega) _).setCell (p := ⟨g, s, none⟩) (by show w.heap.size ≤ g; omega) _).drew))⟩

theorem atPlan_zero {n : Int} {plan : List (List Int)} {r : Int} : atPlan n plan r 0 = (planOk n plan && inR r 0 (plan.length - 1)) := by
  unfold atPlan
  cases hp : planOk n plan
  · simp
  · have h := plan_of hp
    have h1 := h.two
    have : inR 0 0 (n - 1) = true := by simp [inR]; omega
    rw [this]; simp

set_option maxHeartbeats 2000000 in
theorem sSwapRounds_c (n : Int) (A : Option Addr) (c : Nat) (plan : List (List Int)) (r s : Int) (w : World) (ha : Rows w A plan) (hm : plan.length ≤ 1048576) :
    Calls Tryz.prog 67 #[.int .i64 n, .slice A plan.length c, .int .i64 r, .int .i64 s] w (GivesII 3 36 w (swapOf n plan r s)) := by
  have Ha := Lib.hid ha
  clear ha
  have Har := Lib.hid (atPlan_zero (n := n) (plan := plan) (r := r))
  have Has := Lib.hid (atPlan_zero (n := n) (plan := plan) (r := s))
  cases hr : atPlan n plan r 0
  · have hv : swapOf n plan r s = [] := by rw [swapOf, swapOk, if_neg (by rw [← Har.out, hr]; simp)]
    rw [hv]
    have Hr := Lib.hid hr
    clear hr
    clear hv
    go_enter Tryz.func67, Tryz.ntmps67
    go_wp2_with fail
    refine (calls_v (l16At_c _ _ _ _ _ _ _ Ha.out hm) (congrArg Value.bool Hr.out)).mono ?_
    rintro e w1 ⟨rfl, hq⟩
    go_wp2
    go_ret
    exact ⟨none, 0, rfl, Own2.nil .., hq.below _⟩
  · cases hs : atPlan n plan s 0
    · have hv : swapOf n plan r s = [] := by
        rw [swapOf, swapOk, if_neg]
        have h1 := Has.out
        rw [hs] at h1
        revert h1
        cases planOk n plan <;> cases inR s 0 (plan.length - 1) <;> simp
      rw [hv]
      have Hr := Lib.hid hr
      have Hs := Lib.hid hs
      clear hr hs
      clear hv
      go_enter Tryz.func67, Tryz.ntmps67
      go_wp2_with fail
      refine (calls_v (l16At_c _ _ _ _ _ _ _ Ha.out hm) (congrArg Value.bool Hr.out)).mono ?_
      rintro e w1 ⟨rfl, hq⟩
      have Hq := Lib.hid hq
      clear hq
      go_wp2_with fail
      refine (calls_v (l16At_c _ _ _ _ _ _ _ (Ha.out.keep Hq.out.keep) hm) (congrArg Value.bool Hs.out)).mono ?_
      rintro e w2 ⟨rfl, hq⟩
      go_wp2
      go_ret
      exact ⟨none, 0, rfl, Own2.nil .., (Hq.out.trans hq).below _⟩
    · have h1 := Har.out
      have h2 := Has.out
      rw [hr] at h1
      rw [hs] at h2
      have h1' := h1.symm
      have h2' := h2.symm
      simp only [Bool.and_eq_true] at h1' h2'
      have hP := plan_of h1'.1
      have h36 := hP.len
      have hv : swapOf n plan r s = swp (turn (turn plan)) r.toNat s.toNat := by rw [swapOf, if_pos (by simp [swapOk, h1'.1, h1'.2, h2'.2]), turn_turn]
      rw [hv]
      clear hv
      obtain ⟨hr1, hr2⟩ := inR_true h1'.2
      obtain ⟨hs1, hs2⟩ := inR_true h2'.2
      obtain ⟨r, rfl⟩ := Int.eq_ofNat_of_zero_le hr1
      obtain ⟨s, rfl⟩ := Int.eq_ofNat_of_zero_le hs1
      have hl1 := turn_length plan
      have hl2 := turn_length (turn plan)
      have hrl : r < (turn (turn plan)).length := by omega
      have hsl : s < (turn (turn plan)).length := by omega
      clear h1 h2 h1' h2'
      have Hr := Lib.hid hr
      have Hs := Lib.hid hs
      have HP := Lib.hid hP
      have Hl1 := Lib.hid hl1
      have Hl2 := Lib.hid hl2
      clear hr hs hP hl1 hl2
      simp only [Int.toNat_natCast]
      go_enter Tryz.func67, Tryz.ntmps67
      go_wp2_with fail
      refine (calls_v (l16At_c _ _ _ _ _ _ _ Ha.out hm) (congrArg Value.bool Hr.out)).mono ?_
      rintro e w1 ⟨rfl, hq⟩
      have Hq := Lib.hid hq
      clear hq
      go_wp2_with fail
      refine (calls_v (l16At_c _ _ _ _ _ _ _ (Ha.out.keep Hq.out.keep) hm) (congrArg Value.bool Hs.out)).mono ?_
      rintro e w2 ⟨rfl, hq⟩
      have hq3 := Hq.out.trans hq
      clear hq
      have z1 := (hq3.below 0).size
      have Hq3 := Lib.hid hq3
      clear hq3
      go_wp2_with fail
      refine (l16Turn_c _ _ _ _ (Ha.out.keep Hq3.out.keep) hm (plan_small HP.out)).mono ?_
      rintro e w3 ⟨B1, d1, rfl, ho1, hb1⟩
      have z2 := hb1.size
      have Ho1 := Lib.hid ho1
      have Hb1 := Lib.hid hb1
      clear ho1 hb1
      go_wp2_with fail
      refine (l16Turn_c _ _ _ _ Ho1.out.rows (by rw [Hl1.out]; omega) (turn_small (plan_small HP.out))).mono ?_
      rintro e w4 ⟨B, d, rfl, ho, hb⟩
      obtain ⟨g, a, b, m, p, da, db, rfl, hg, hc1, hc2, hf1, hf2, hc3, hO⟩ := ho.swap hrl hsl (by decide)
      have hsz := hb.size
      have hf3 : (w4.setCell ⟨g, r, none⟩ (.slice b p db)).frozen? ⟨g, s, none⟩ = false := by rw [← hf2]; exact World.frozen?_setCell ..
      have Hb := Lib.hid hb
      have HO := Lib.hid hO
      clear hb hO
      clear ho
      go_wp2
      go_ret
      exact ⟨_, d, by rw [swp_length]; rfl, Own2.wide HO.out (by omega) (by simp [World.setCell]), (Hq3.out.below _).trans ((Hb1.out.mono z1).trans ((Hb.out.mono (by omega)).trans ((((Below.refl _ _).setCell (p := ⟨g, r, none⟩) (by show w.heap.size ≤ g; omega) _).setCell (p := ⟨g, s, none⟩) (by show w.heap.size ≤ g; omega) _))))⟩
end Go.Proofs.YtfkccgblgjpalaaGreat
