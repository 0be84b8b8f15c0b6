/- Contracts: the plan with the least carry-over among those with two rounds exchanged (program and reference). -/
import Derived.Test.YthbpeolcmlkneaaCarryV
import Derived.Test.YthbpeolcmlkneaaSwap
import Derived.Test.YthbpeolcmlkneaaOpen
namespace Go.Proofs.Ythbpeolcmlkneaa
open Go.RowKit

theorem sq_nonneg' (x : Int) : 0 ≤ x * x := by
  rcases Int.le_total 0 x with h | h
  · exact Int.mul_nonneg h h
  · have := Int.mul_nonneg (Int.neg_nonneg.2 h) (Int.neg_nonneg.2 h)
    rwa [Int.neg_mul_neg] at this
theorem sqL_nonneg : ∀ (xs : List Int) (z : Int), 0 ≤ z → 0 ≤ sqL xs z
  | [], _, h => h
  | x :: r, _, h => sqL_nonneg r _ (by have := sq_nonneg' x; omega)
theorem sqT_nonneg : ∀ (t : List (List Int)) (z : Int), 0 ≤ z → 0 ≤ sqT t z
  | [], _, h => h
  | xs :: r, _, h => sqT_nonneg r _ (sqL_nonneg xs _ h)
theorem valF_nonneg {n : Int} {plan : List (List Int)} (h1 : planOk n plan = true) (h2 : plan ≠ []) : 0 ≤ valF n plan := by
  rw [valF, if_pos ⟨h1, h2⟩]
  exact sqT_nonneg _ _ (Int.le_refl _)
theorem swp_mem {α : Type} {l : List α} {r s : Nat} (hr : r < l.length) (hs : s < l.length) {x : α} (h : x ∈ swp l r s) : x ∈ l := by
  obtain ⟨i, hi⟩ := List.getElem?_of_mem h
  rw [swp_at hr hs] at hi
  exact List.mem_of_getElem? hi
theorem planOk_swp {n : Int} {plan : List (List Int)} {r s : Nat} (h : planOk n plan = true) (hr : r < plan.length) (hs : s < plan.length) : planOk n (swp plan r s) = true := by
  simp only [planOk, Bool.and_eq_true, decide_eq_true_eq, List.all_eq_true] at h ⊢
  obtain ⟨⟨h1, h2⟩, h3⟩ := h
  exact ⟨⟨h1, by rw [swp_length]; exact h2⟩, fun x hx => h3 x (swp_mem hr hs hx)⟩
theorem swp_self {α : Type} {l : List α} {r : Nat} (hr : r < l.length) : swp l r r = l := by
  apply List.ext_getElem?
  intro i
  rw [swp_at hr hr]
  unfold sig
  by_cases h : i = r
  · rw [if_pos h, h]
  · rw [if_neg h, if_neg h]
theorem swp_comm {α : Type} {l : List α} {r s : Nat} (hr : r < l.length) (hs : s < l.length) : swp l r s = swp l s r := by
  apply List.ext_getElem?
  intro i
  rw [swp_at hr hs, swp_at hs hr]
  unfold sig
  by_cases h1 : i = s <;> by_cases h2 : i = r
  · subst h1; subst h2; rfl
  · rw [if_pos h1, if_neg h2, if_pos h1]
  · rw [if_neg h1, if_pos h2, if_pos h2]
  · rw [if_neg h1, if_neg h2, if_neg h2, if_neg h1]
theorem swapOf_eq {n : Int} {plan : List (List Int)} {r s : Nat} (h : planOk n plan = true) (hr : r < plan.length) (hs : s < plan.length) : swapOf n plan (r : Int) (s : Int) = swp plan r s := by
  rw [swapOf, if_pos]
  · rfl
  · simp only [swapOk, h, inR, Bool.true_and, Bool.and_eq_true, decide_eq_true_eq]
    omega

def stepL (n : Int) (plan : List (List Int)) (r s : Nat) (best : List (List Int)) : List (List Int) := if valF n (swp plan r s) < valF n best then swp plan r s else best
def lcS (n : Int) (plan : List (List Int)) (r : Nat) : Nat → Nat → List (List Int) → List (List Int)
  | 0, _, b => b
  | f + 1, s, b => lcS n plan r f (s + 1) (stepL n plan r s b)
def lcR (n : Int) (plan : List (List Int)) : Nat → Nat → List (List Int) → List (List Int)
  | 0, _, b => b
  | f + 1, r, b => lcR n plan f (r + 1) (lcS n plan r f (r + 1) b)
def leastF (n : Int) (plan : List (List Int)) : List (List Int) := if planOk n plan = true ∧ plan ≠ [] then lcR n plan plan.length 0 plan else []

set_option maxHeartbeats 4000000 in
theorem sLeastCarry_c (n : Int) (A : Option Addr) (c : Nat) (plan : List (List Int)) (w : World) (ha : Rows w A plan) (hm : plan.length ≤ 1048576) :
    Calls Try.prog 23 #[.int .i64 n, .slice A plan.length c] w (GivesII 3 38 w (leastF n plan)) := by
  generalize hR : leastF n plan = R
  have HR := Lib.hid hR
  clear hR
  have Ha := Lib.hid ha
  clear ha
  by_cases h : planOk n plan = true ∧ plan ≠ []
  · obtain ⟨h1, h2⟩ := h
    have hP := plan_of h1
    obtain ⟨m, rfl⟩ := Int.eq_ofNat_of_zero_le (show 0 ≤ n by have := hP.two; omega)
    have hpos : 1 ≤ plan.length := List.length_pos_iff.2 h2
    have hl36 := hP.len
    have hsm := plan_small hP
    obtain ⟨M, hM⟩ : ∃ M, plan.length = M := ⟨_, rfl⟩
    have HS : Hid (lcR m plan M 0 plan = R) := Lib.hid (by rw [← HR.out, leastF, if_pos ⟨h1, h2⟩, hM])
    have hpc := calls_v (sPlanOk_c _ A c plan w Ha.out hm) (congrArg Value.bool h1)
    rw [hM] at hpc hpos hl36 ⊢
    have hlz : ((M : Int) == 0) = false := by rw [beq_eq_false_iff_ne]; omega
    have hlz2 : ¬ M = 0 := by omega
    have H1 := Lib.hid h1
    have H2 := Lib.hid h2
    have HP := Lib.hid hP
    have HM := Lib.hid hM
    have Hpc := Lib.hid hpc
    have Hsm := Lib.hid hsm
    clear h1 h2 hP hM hpc hsm
    clear HR
    go_enter Try.func23, Try.ntmps23
    go_wp2_with fail
    refine (Hpc.out).mono ?_
    rintro e w1 ⟨rfl, hq⟩
    have Hq := Lib.hid hq
    clear hq
    have hc1 := l16Turn_c A c plan w1 (Ha.out.keep Hq.out.keep) hm Hsm.out
    rw [HM.out] at hc1
    have Hc1 := Lib.hid hc1
    clear hc1
    go_wp2_with fail
    refine (Hc1.out).mono ?_
    rintro e w2 ⟨B1, d1, rfl, ho1, hb1⟩
    have hc2 := l16Turn_c B1 d1 (turn plan) w2 ho1.rows (by rw [turn_length]; exact hm) (turn_small Hsm.out)
    rw [turn_turn, turn_length, HM.out] at hc2
    have hb2 := (Hq.out.below w.heap.size).trans (hb1.mono (Hq.out.below 0).size)
    have Hc2 := Lib.hid hc2
    have Hb2 := Lib.hid hb2
    clear hc2 hb2
    clear ho1 hb1
    rw [turn_length, HM.out]
    go_wp2_with fail
    refine (Hc2.out).mono ?_
    rintro e w3 ⟨B2, d2, rfl, ho2, hb3⟩
    have ho := ho2.wide Hb2.out.size (Nat.le_refl _)
    have hb := Hb2.out.trans (hb3.mono Hb2.out.size)
    rw [HM.out]
    have Ho := Lib.hid ho
    have Hb := Lib.hid hb
    clear ho hb
    clear ho2 hb3 Hb2 Hc2 Hc1 Hq
    go_wp2
    go_loopw [23, 5] (fun i v wr => ∃ (r f : Nat) (b : List (List Int)) (B : Option Addr) (d : Nat), r + f = M ∧ i = .int .i64 r ∧ v = .slice B M d ∧ planOk m b = true ∧ b.length = M ∧ lcR m plan f r b = R ∧ Own2 3 38 w.heap.size wr.heap.size wr B d b ∧ Below w.heap.size w wr) (fun i _ _ => M - (intOf i).toNat)
    case atStart => exact ⟨0, M, plan, B2, d2, by omega, rfl, rfl, H1.out, HM.out, HS.out, Ho.out, Hb.out⟩
    case round =>
      clear Ho Hb HS
      obtain ⟨r, f, b, B, d, hrf, rfl, rfl, hok, hlen, hS, ho, hd⟩ := hrel
      have HS := Lib.hid hS
      have Hd := Lib.hid hd
      have Ho := Lib.hid ho
      have Hok := Lib.hid hok
      have Hlen := Lib.hid hlen
      clear hS hd ho hok hlen
      by_cases hlt : r < M
      · obtain ⟨f, rfl⟩ : ∃ f', f = f' + 1 := ⟨f - 1, by omega⟩
        have HS1 : Hid (lcR m plan f (r + 1) (lcS m plan r f (r + 1) b) = R) := Lib.hid (by have := HS.out; rwa [lcR] at this)
        clear HS
        go_wp2
        go_loopw [7, 5] (fun i v wr => ∃ (s g : Nat) (b : List (List Int)) (B : Option Addr) (d : Nat), r < s ∧ s + g = M ∧ i = .int .i64 s ∧ v = .slice B M d ∧ planOk m b = true ∧ b.length = M ∧ lcR m plan f (r + 1) (lcS m plan r g s b) = R ∧ Own2 3 38 w.heap.size wr.heap.size wr B d b ∧ Below w.heap.size w wr) (fun i _ _ => M - (intOf i).toNat)
        case atStart => exact ⟨r + 1, f, b, B, d, by omega, by omega, by go_num, rfl, Hok.out, Hlen.out, HS1.out, Ho.out, Hd.out⟩
        case round =>
          clear HS1 Hd Ho Hok Hlen
          obtain ⟨s, g, b, B, d, hrs, hsg, rfl, rfl, hok, hlen, hS, ho, hd⟩ := hrel
          have HS := Lib.hid hS
          have Hd := Lib.hid hd
          have Ho := Lib.hid ho
          have Hok := Lib.hid hok
          have Hlen := Lib.hid hlen
          clear hS hd ho hok hlen
          by_cases hlt2 : s < M
          · obtain ⟨g, rfl⟩ : ∃ g', g = g' + 1 := ⟨g - 1, by omega⟩
            have hrp : r < plan.length := by rw [HM.out]; exact hlt
            have hsp : s < plan.length := by rw [HM.out]; exact hlt2
            obtain ⟨X, hX⟩ : ∃ X, swp plan r s = X := ⟨_, rfl⟩
            have hXl : X.length = M := by rw [← hX, swp_length]; exact HM.out
            have hXok : planOk m X = true := by rw [← hX]; exact planOk_swp H1.out hrp hsp
            have hsw := givesII_v (sSwapRounds_c m A c plan r s wr (Ha.out.keep (keep_of_below Hd.out)) hm) ((swapOf_eq H1.out hrp hsp).trans hX)
            rw [HM.out] at hsw
            obtain ⟨p, hp⟩ : ∃ p, valF m X = p := ⟨_, rfl⟩
            obtain ⟨q, hq⟩ : ∃ q, valF m b = q := ⟨_, rfl⟩
            have HS1 : Hid (lcR m plan f (r + 1) (lcS m plan r g (s + 1) (if p < q then X else b)) = R) := Lib.hid (by have := HS.out; rwa [lcS, stepL, hX, hp, hq] at this)
            have hbn : b ≠ [] := fun e => by have := Hlen.out; rw [e] at this; simp at this; omega
            have hXn : X ≠ [] := fun e => by rw [e] at hXl; simp at hXl; omega
            have HX := Lib.hid hX
            have HXl := Lib.hid hXl
            have HXok := Lib.hid hXok
            have Hsw := Lib.hid hsw
            have Hp := Lib.hid hp
            have Hq := Lib.hid hq
            have Hbn := Lib.hid hbn
            have HXn := Lib.hid hXn
            clear hX hXl hXok hsw hp hq hbn hXn
            clear HS hrp hsp
            go_wp2_with fail
            refine (Hsw.out).mono ?_
            rintro e w4 ⟨Y, dy, rfl, hoy, hby⟩
            rw [HXl.out]
            have hv1 := gives_v (l18Value_c m Y dy X w4 hoy.rows HXok.out HXn.out) (congrArg (Value.int .i64) Hp.out)
            rw [HXl.out] at hv1
            have Hv1 := Lib.hid hv1
            have Hoy := Lib.hid hoy
            have Hby := Lib.hid hby
            clear hv1 hoy hby
            go_wp2_with fail
            refine (Hv1.out).mono ?_
            rintro e w5 ⟨rfl, hb5⟩
            have hob := (Ho.out.below Hby.out).below (hb5.mono Hby.out.size)
            have hv2 := gives_v (l18Value_c m B d b w5 hob.rows Hok.out Hbn.out) (congrArg (Value.int .i64) Hq.out)
            rw [Hlen.out] at hv2
            have hoy5 := Hoy.out.below hb5
            have hd5 := (Hd.out.trans (Hby.out.mono Hd.out.size)).trans (hb5.mono (Nat.le_trans Hd.out.size Hby.out.size))
            have Hv2 := Lib.hid hv2
            have Hob := Lib.hid hob
            have Hoy5 := Lib.hid hoy5
            have Hd5 := Lib.hid hd5
            clear hv2 hob hoy5 hd5
            have hz5 := hb5.size
            clear hb5
            by_cases hpq : p < q
            · have HS2 : Hid (lcR m plan f (r + 1) (lcS m plan r g (s + 1) X) = R) := Lib.hid (by have := HS1.out; rwa [if_pos hpq] at this)
              clear HS1
              go_wp2_with fail
              refine (Hv2.out).mono ?_
              rintro e w6 ⟨rfl, hb6⟩
              have ho6 := (Hoy5.out.below (hb6.mono hz5)).wide (Nat.le_trans Hd.out.size (Nat.le_refl _)) (Nat.le_trans hz5 hb6.size)
              have hd6 := Hd5.out.trans (hb6.mono Hd5.out.size)
              have Ho6 := Lib.hid ho6
              have Hd6 := Lib.hid hd6
              clear ho6 hd6
              clear hb6
              go_wp2
              go_roundw
              case rel => exact ⟨s + 1, g, X, Y, dy, by omega, by omega, by go_num, rfl, HXok.out, HXl.out, HS2.out, Ho6.out, Hd6.out⟩
              case measure => simp [intOf]; omega
            · have HS2 : Hid (lcR m plan f (r + 1) (lcS m plan r g (s + 1) b) = R) := Lib.hid (by have := HS1.out; rwa [if_neg hpq] at this)
              clear HS1
              go_wp2_with fail
              refine (Hv2.out).mono ?_
              rintro e w6 ⟨rfl, hb6⟩
              have ho6 := (Hob.out.below (hb6.mono (Nat.le_trans Hby.out.size hz5))).wide (Nat.le_refl _) (Nat.le_trans (Nat.le_trans Hby.out.size hz5) hb6.size)
              have hd6 := Hd5.out.trans (hb6.mono Hd5.out.size)
              have Ho6 := Lib.hid ho6
              have Hd6 := Lib.hid hd6
              clear ho6 hd6
              clear hb6
              go_wp2
              go_roundw
              case rel => exact ⟨s + 1, g, b, B, d, by omega, by omega, by go_num, rfl, Hok.out, Hlen.out, HS2.out, Ho6.out, Hd6.out⟩
              case measure => simp [intOf]; omega
          · obtain rfl : g = 0 := by omega
            have HS1 : Hid (lcR m plan f (r + 1) b = R) := Lib.hid (by have := HS.out; rwa [lcS] at this)
            go_wp2
            go_roundw
            case rel => exact ⟨r + 1, f, b, B, d, by omega, by go_num, rfl, Hok.out, Hlen.out, HS1.out, Ho.out, Hd.out⟩
            case measure => simp [intOf]; omega
      · obtain rfl : f = 0 := by omega
        have HS1 : Hid (b = R) := Lib.hid (by have := HS.out; rwa [lcR] at this)
        go_wp2
        go_ret
        rw [← HS1.out]
        exact ⟨B, d, by rw [Hlen.out]; rfl, Ho.out, Hd.out⟩
  · have hR2 : R = [] := by rw [← HR.out, leastF, if_neg h]
    subst hR2
    clear HR
    cases h1 : planOk n plan
    · have H1 := Lib.hid h1
      clear h1
      clear h
      go_enter Try.func23, Try.ntmps23
      go_wp2_with fail
      refine (calls_v (sPlanOk_c _ _ _ _ _ Ha.out hm) (congrArg Value.bool H1.out)).mono ?_
      rintro e w1 ⟨rfl, hq⟩
      go_wp2
      go_ret
      exact ⟨none, 0, rfl, Own2.nil .., hq.below _⟩
    · obtain rfl : plan = [] := Classical.byContradiction fun e => h ⟨h1, e⟩
      have H1 := Lib.hid h1
      clear h1
      clear h
      go_enter Try.func23, Try.ntmps23
      go_wp2_with fail
      refine (calls_v (sPlanOk_c _ _ _ _ _ Ha.out hm) (congrArg Value.bool H1.out)).mono ?_
      rintro e w1 ⟨rfl, hq⟩
      go_wp2
      go_ret
      exact ⟨none, 0, rfl, Own2.nil .., hq.below _⟩

/-- No plan that was looked at is worth less. -/
def Low (n : Int) (plan : List (List Int)) (M r s : Nat) (b : List (List Int)) : Prop := valF n b ≤ valF n plan ∧ ∀ x y, x < y → y < M → (x < r ∨ (x = r ∧ y < s)) → valF n b ≤ valF n (swp plan x y)
theorem Low.skip {n : Int} {plan : List (List Int)} {M r s : Nat} {b : List (List Int)} (h : Low n plan M r s b) (hs : s ≤ r) : Low n plan M r (s + 1) b :=
  ⟨h.1, fun x y h1 h2 h3 => h.2 x y h1 h2 (by omega)⟩
theorem Low.next {n : Int} {plan : List (List Int)} {M r : Nat} {b : List (List Int)} (h : Low n plan M r M b) : Low n plan M (r + 1) 0 b :=
  ⟨h.1, fun x y h1 h2 h3 => h.2 x y h1 h2 (by omega)⟩
theorem Low.keep {n : Int} {plan : List (List Int)} {M r s : Nat} {b : List (List Int)} (h : Low n plan M r s b) (hv : ¬ valF n (swp plan r s) < valF n b) : Low n plan M r (s + 1) b :=
  ⟨h.1, fun x y h1 h2 h3 => by
    by_cases e : x = r ∧ y = s
    · obtain ⟨rfl, rfl⟩ := e; omega
    · exact h.2 x y h1 h2 (by omega)⟩
theorem Low.take {n : Int} {plan : List (List Int)} {M r s : Nat} {b : List (List Int)} (h : Low n plan M r s b) (hv : valF n (swp plan r s) < valF n b) : Low n plan M r (s + 1) (swp plan r s) :=
  ⟨by have := h.1; omega, fun x y h1 h2 h3 => by
    by_cases e : x = r ∧ y = s
    · obtain ⟨rfl, rfl⟩ := e; omega
    · have := h.2 x y h1 h2 (by omega); omega⟩
theorem Low.no {n : Int} {plan : List (List Int)} {M r s : Nat} {b : List (List Int)} (h : Low n plan M r s b) (hM : plan.length = M) (hr : r < M) (hs : s ≤ r) : ¬ valF n (swp plan r s) < valF n b := by
  by_cases e : s = r
  · subst e
    rw [swp_self (by omega)]
    have := h.1; omega
  · rw [swp_comm (by omega) (by omega)]
    have := h.2 s r (by omega) hr (.inl (by omega)); omega

set_option maxHeartbeats 4000000 in
theorem iLeastCarry_c (n : Int) (A : Option Addr) (c : Nat) (plan : List (List Int)) (w : World) (ha : Rows w A plan) (hm : plan.length ≤ 1048576) :
    Calls Try.prog 24 #[.int .i64 n, .slice A plan.length c] w (GivesII 3 38 w (leastF n plan)) := by
  generalize hR : leastF n plan = R
  have HR := Lib.hid hR
  clear hR
  have Ha := Lib.hid ha
  clear ha
  by_cases h : planOk n plan = true ∧ plan ≠ []
  · obtain ⟨h1, h2⟩ := h
    have hP := plan_of h1
    obtain ⟨m, rfl⟩ := Int.eq_ofNat_of_zero_le (show 0 ≤ n by have := hP.two; omega)
    have hpos : 1 ≤ plan.length := List.length_pos_iff.2 h2
    have hl36 := hP.len
    have hsm := plan_small hP
    obtain ⟨M, hM⟩ : ∃ M, plan.length = M := ⟨_, rfl⟩
    have HS : Hid (lcR m plan M 0 plan = R) := Lib.hid (by rw [← HR.out, leastF, if_pos ⟨h1, h2⟩, hM])
    obtain ⟨v0, hv0⟩ : ∃ v, valF m plan = v := ⟨_, rfl⟩
    have hv00 : 0 ≤ v0 := by rw [← hv0]; exact valF_nonneg h1 h2
    have hpc := gives_v (iCarryValue_c m A c plan w Ha.out hm) (congrArg (Value.int .i64) hv0)
    rw [hM] at hpc hpos hl36 ⊢
    have hv01 : ¬ v0 < 0 := by omega
    have H1 := Lib.hid h1
    have H2 := Lib.hid h2
    have HP := Lib.hid hP
    have HM := Lib.hid hM
    have Hpc := Lib.hid hpc
    have Hsm := Lib.hid hsm
    have Hv0 := Lib.hid hv0
    clear h1 h2 hP hM hpc hsm hv0
    clear HR
    go_enter Try.func24, Try.ntmps24
    go_wp2_with fail
    refine (Hpc.out).mono ?_
    rintro e w1 ⟨rfl, hb1⟩
    have hc1 := copyPlan_c A c plan w1 (Ha.out.keep (keep_of_below hb1)) hm (fun xs h => (Hsm.out xs h).1)
    rw [HM.out] at hc1
    have Hc1 := Lib.hid hc1
    have Hb1 := Lib.hid hb1
    clear hc1 hb1
    go_wp2_with fail
    refine (Hc1.out).mono ?_
    rintro e w3 ⟨B2, d2, rfl, ho2, hb3⟩
    have ho := ho2.wide Hb1.out.size (Nat.le_refl _)
    have hb := Hb1.out.trans (hb3.mono Hb1.out.size)
    rw [HM.out]
    have Ho := Lib.hid ho
    have Hb := Lib.hid hb
    clear ho hb
    clear ho2 hb3 Hb1 Hc1 hv00 hv01
    go_wp2
    go_loopw [19, 5, 6] (fun i l v wr => ∃ (r f : Nat) (q : Int) (b : List (List Int)) (B : Option Addr) (d : Nat), r + f = M ∧ i = .int .i64 r ∧ l = .int .i64 q ∧ v = .slice B M d ∧ valF m b = q ∧ Low m plan M r 0 b ∧ b.length = M ∧ lcR m plan f r b = R ∧ Own2 3 38 w.heap.size wr.heap.size wr B d b ∧ Below w.heap.size w wr) (fun i _ _ _ => M - (intOf i).toNat)
    case atStart => exact ⟨0, M, v0, plan, B2, d2, by omega, rfl, rfl, rfl, Hv0.out, ⟨Int.le_refl _, fun x y _ _ h => by omega⟩, HM.out, HS.out, Ho.out, Hb.out⟩
    case round =>
      clear Ho Hb HS
      obtain ⟨r, f, q, b, B, d, hrf, rfl, rfl, rfl, hq, hlow, hlen, hS, ho, hd⟩ := hrel
      have HS := Lib.hid hS
      have Hd := Lib.hid hd
      have Ho := Lib.hid ho
      have Hlow := Lib.hid hlow
      have Hlen := Lib.hid hlen
      have Hq := Lib.hid hq
      clear hS hd ho hlow hlen hq
      by_cases hlt : r < M
      · obtain ⟨f, rfl⟩ : ∃ f', f = f' + 1 := ⟨f - 1, by omega⟩
        have HS1 : Hid (lcR m plan f (r + 1) (lcS m plan r (M - (r + 1)) (r + 1) b) = R) := Lib.hid (by rw [show M - (r + 1) = f from by omega]; have := HS.out; rwa [lcR] at this)
        clear HS
        go_wp2
        go_loopw [24, 5, 6] (fun i l v wr => ∃ (s : Nat) (q : Int) (b : List (List Int)) (B : Option Addr) (d : Nat), s ≤ M ∧ i = .int .i64 s ∧ l = .int .i64 q ∧ v = .slice B M d ∧ valF m b = q ∧ Low m plan M r s b ∧ b.length = M ∧ lcR m plan f (r + 1) (lcS m plan r (M - max s (r + 1)) (max s (r + 1)) b) = R ∧ Own2 3 38 w.heap.size wr.heap.size wr B d b ∧ Below w.heap.size w wr) (fun i _ _ _ => M - (intOf i).toNat)
        case atStart => exact ⟨0, q, b, B, d, by omega, rfl, rfl, rfl, Hq.out, Hlow.out, Hlen.out, by rw [Nat.zero_max]; exact HS1.out, Ho.out, Hd.out⟩
        case round =>
          clear HS1 Hd Ho Hlow Hlen Hq
          obtain ⟨s, q, b, B, d, hsM, rfl, rfl, rfl, hq, hlow, hlen, hS, ho, hd⟩ := hrel
          have HS := Lib.hid hS
          have Hd := Lib.hid hd
          have Ho := Lib.hid ho
          have Hlow := Lib.hid hlow
          have Hlen := Lib.hid hlen
          clear hS hd ho hlow hlen
          by_cases hlt2 : s < M
          · have hrp : r < plan.length := by rw [HM.out]; exact hlt
            have hsp : s < plan.length := by rw [HM.out]; exact hlt2
            obtain ⟨X, hX⟩ : ∃ X, swp plan r s = X := ⟨_, rfl⟩
            have hXl : X.length = M := by rw [← hX, swp_length]; exact HM.out
            have hsw := givesII_v (iSwapRounds_c m A c plan r s wr (Ha.out.keep (keep_of_below Hd.out)) hm) ((swapOf_eq H1.out hrp hsp).trans hX)
            rw [HM.out] at hsw
            obtain ⟨p, hp⟩ : ∃ p, valF m X = p := ⟨_, rfl⟩
            have hXm : X.length ≤ 1048576 := by omega
            have hstay : s ≤ r → ¬ p < q := fun h => by rw [← hp, ← hq, ← hX]; exact Hlow.out.no HM.out hlt h
            have hbig : ¬ s ≤ r → lcR m plan f (r + 1) (lcS m plan r (M - (s + 1)) (s + 1) (if p < q then X else b)) = R := fun h => by
              have := HS.out
              rw [show max s (r + 1) = s from by omega, show M - s = M - (s + 1) + 1 from by omega, lcS, stepL, hX, hp, hq] at this
              exact this
            have hnot : s ≤ r → lcR m plan f (r + 1) (lcS m plan r (M - max (s + 1) (r + 1)) (max (s + 1) (r + 1)) b) = R := fun h => by
              have := HS.out
              rwa [show max s (r + 1) = max (s + 1) (r + 1) from by omega] at this
            have HX := Lib.hid hX
            have HXl := Lib.hid hXl
            have Hsw := Lib.hid hsw
            have Hp := Lib.hid hp
            have Hq := Lib.hid hq
            have Hstay := Lib.hid hstay
            have Hbig := Lib.hid hbig
            have Hnot := Lib.hid hnot
            clear hX hXl hsw hp hq hstay hbig hnot
            clear HS hrp hsp
            go_wp2_with fail
            refine (Hsw.out).mono ?_
            rintro e w4 ⟨Y, dy, rfl, hoy, hby⟩
            rw [HXl.out]
            have hv1 := gives_v (iCarryValue_c m Y dy X w4 hoy.rows hXm) (congrArg (Value.int .i64) Hp.out)
            rw [HXl.out] at hv1
            have Hv1 := Lib.hid hv1
            have Hoy := Lib.hid hoy
            have Hby := Lib.hid hby
            clear hv1 hoy hby
            by_cases hpq : p < q
            · have hrs : ¬ s ≤ r := fun e => by have := Hstay.out e; omega
              have HS2 : Hid (lcR m plan f (r + 1) (lcS m plan r (M - max (s + 1) (r + 1)) (max (s + 1) (r + 1)) X) = R) := Lib.hid (by have := Hbig.out hrs; rwa [if_pos hpq, ← show max (s + 1) (r + 1) = s + 1 from by omega] at this)
              have HL : Hid (Low m plan M r (s + 1) X) := Lib.hid (by rw [← HX.out]; exact Hlow.out.take (by rw [HX.out, Hp.out, Hq.out]; exact hpq))
              clear Hstay Hbig Hnot
              go_wp2_with fail
              refine (Hv1.out).mono ?_
              rintro e w5 ⟨rfl, hb5⟩
              have hv2 := gives_v (iCarryValue_c m Y dy X w5 (Hoy.out.below hb5).rows hXm) (congrArg (Value.int .i64) Hp.out)
              rw [HXl.out] at hv2
              have Hv2 := Lib.hid hv2
              have Hb5 := Lib.hid hb5
              clear hv2 hb5
              go_wp2_with fail
              refine (Hv2.out).mono ?_
              rintro e w6 ⟨rfl, hb6⟩
              have ho6 := ((Hoy.out.below Hb5.out).below (hb6.mono Hb5.out.size)).wide Hd.out.size (Nat.le_trans Hb5.out.size hb6.size)
              have hd6 := ((Hd.out.trans (Hby.out.mono Hd.out.size)).trans (Hb5.out.mono (Nat.le_trans Hd.out.size Hby.out.size))).trans (hb6.mono (Nat.le_trans (Nat.le_trans Hd.out.size Hby.out.size) Hb5.out.size))
              have Ho6 := Lib.hid ho6
              have Hd6 := Lib.hid hd6
              clear ho6 hd6
              clear hb6
              go_wp2
              go_roundw
              case rel => exact ⟨s + 1, p, X, Y, dy, by omega, by go_num, rfl, rfl, Hp.out, HL.out, HXl.out, HS2.out, Ho6.out, Hd6.out⟩
              case measure => simp [intOf]; omega
            · have HS2 : Hid (lcR m plan f (r + 1) (lcS m plan r (M - max (s + 1) (r + 1)) (max (s + 1) (r + 1)) b) = R) := Lib.hid (by
                by_cases hrs : s ≤ r
                · exact Hnot.out hrs
                · have := Hbig.out hrs; rwa [if_neg hpq, ← show max (s + 1) (r + 1) = s + 1 from by omega] at this)
              have HL : Hid (Low m plan M r (s + 1) b) := Lib.hid (Hlow.out.keep (by rw [HX.out, Hp.out, Hq.out]; exact hpq))
              clear Hstay Hbig Hnot
              go_wp2_with fail
              refine (Hv1.out).mono ?_
              rintro e w5 ⟨rfl, hb5⟩
              have ho6 := ((Ho.out.below Hby.out).below (hb5.mono Hby.out.size)).wide (Nat.le_refl _) (Nat.le_trans Hby.out.size hb5.size)
              have hd6 := (Hd.out.trans (Hby.out.mono Hd.out.size)).trans (hb5.mono (Nat.le_trans Hd.out.size Hby.out.size))
              have Ho6 := Lib.hid ho6
              have Hd6 := Lib.hid hd6
              clear ho6 hd6
              clear hb5
              go_wp2
              go_roundw
              case rel => exact ⟨s + 1, q, b, B, d, by omega, by go_num, rfl, rfl, Hq.out, HL.out, Hlen.out, HS2.out, Ho6.out, Hd6.out⟩
              case measure => simp [intOf]; omega
          · obtain rfl : s = M := by omega
            have HS1 : Hid (lcR m plan f (r + 1) b = R) := Lib.hid (by have := HS.out; rwa [show s - max s (r + 1) = 0 from by omega, lcS] at this)
            have HL : Hid (Low m plan s (r + 1) 0 b) := Lib.hid Hlow.out.next
            have Hq := Lib.hid hq
            clear hq
            go_wp2
            go_roundw
            case rel => exact ⟨r + 1, f, q, b, B, d, by omega, by go_num, rfl, rfl, Hq.out, HL.out, Hlen.out, HS1.out, Ho.out, Hd.out⟩
            case measure => simp [intOf]; omega
      · obtain rfl : f = 0 := by omega
        have HS1 : Hid (b = R) := Lib.hid (by have := HS.out; rwa [lcR] at this)
        go_wp2
        go_ret
        rw [← HS1.out]
        exact ⟨B, d, by rw [Hlen.out]; rfl, Ho.out, Hd.out⟩
  · have hR2 : R = [] := by rw [← HR.out, leastF, if_neg h]
    subst hR2
    have hv : valF n plan = -1 := by rw [valF, if_neg h]
    have hpc := gives_v (iCarryValue_c n A c plan w Ha.out hm) (congrArg (Value.int .i64) hv)
    have Hpc := Lib.hid hpc
    have Hv := Lib.hid hv
    clear hpc hv
    clear HR h
    go_enter Try.func24, Try.ntmps24
    go_wp2_with fail
    refine (Hpc.out).mono ?_
    rintro e w1 ⟨rfl, hb⟩
    go_wp2
    go_ret
    exact ⟨none, 0, rfl, Own2.nil .., hb⟩
end Go.Proofs.Ythbpeolcmlkneaa
