/- Contracts: whether a league is valid, the points of a result (program and reference). -/
import Derived.Test.YtehlijpjcjegcaaLgA
import Derived.Test.YtehlijpjcjegcaaIn
import Derived.Test.YtehlijpjcjegcaaTail
namespace Go.Proofs.Ytehlijpjcjegcaa
set_option linter.unusedSimpArgs false
set_option linter.unusedVariables false
open Go.RowKit

def resOk (n : Int) (r : Res) : Bool := inR r.h 0 (n - 1) && (inR r.a 0 (n - 1) && (!(r.h == r.a) && (inR r.g 0 99 && inR r.t 0 99)))
def leagueOk (n : Int) (rs : List Res) : Bool := inR n 2 8 && (decide (rs.length ≤ 60) && rs.all (resOk n))
structure League (n : Int) (rs : List Res) : Prop where
  two : 2 ≤ n
  eight : n ≤ 8
  few : rs.length ≤ 60
  ok : ∀ r ∈ rs, resOk n r = true
theorem league_of {n : Int} {rs : List Res} (h : leagueOk n rs = true) : League n rs := by
  simp only [leagueOk, Bool.and_eq_true, decide_eq_true_eq, List.all_eq_true] at h
  obtain ⟨h1, h2, h3⟩ := h
  have := inR_true h1
  exact ⟨this.1, this.2, h2, h3⟩
structure ResOk (n : Int) (r : Res) : Prop where
  h0 : 0 ≤ r.h
  hn : r.h < n
  a0 : 0 ≤ r.a
  an : r.a < n
  ne : r.h ≠ r.a
  g0 : 0 ≤ r.g
  g9 : r.g ≤ 99
  t0 : 0 ≤ r.t
  t9 : r.t ≤ 99
theorem resOk_of {n : Int} {r : Res} (h : resOk n r = true) : ResOk n r := by
  simp only [resOk, Bool.and_eq_true, Bool.not_eq_true', beq_eq_false_iff_ne] at h
  obtain ⟨h1, h2, h3, h4, h5⟩ := h
  have a := inR_true h1; have b := inR_true h2; have c := inR_true h4; have d := inR_true h5
  exact ⟨a.1, by omega, b.1, by omega, h3, c.1, c.2, d.1, d.2⟩

set_option maxHeartbeats 400000 in
theorem has_c (n : Int) (A : Option Addr) (m c : Nat) (k : Int) (w : World) (h0 : 0 ≤ n) (h1 : n ≤ 100) : Calls Try.prog 45 #[lgv n A m c, .int .i64 k] w (Gives w (.bool (inR k 0 (n - 1)))) := by
  unfold lgv
  generalize hR : inR k 0 (n - 1) = R
  have HR := Lib.hid hR
  clear hR
  go_enter Try.func45, Try.ntmps45
  go_wp2_with fail
  refine (calls_v (within_c k 0 (n - 1) _) (congrArg Value.bool HR.out)).mono ?_
  rintro e w1 ⟨rfl, hq⟩
  go_wp2
  go_ret
  exact ⟨rfl, ((Below.refl _ _).alloc (Nat.le_refl _) _).trans (hq.below _)⟩

/-- The cells that the closure reads: the league's box and the result's own. -/
structure Ctx (w : World) (b d : Nat) (n : Int) (A : Option Addr) (m c : Nat) (r : Res) : Prop where
  c0 : w.cell? ⟨b, 0, none⟩ = some (.int .i64 n)
  c1 : w.cell? ⟨b, 1, none⟩ = some (.slice A m c)
  r0 : w.cell? ⟨d, 0, none⟩ = some (.int .i64 r.h)
  r1 : w.cell? ⟨d, 1, none⟩ = some (.int .i64 r.a)
  r2 : w.cell? ⟨d, 2, none⟩ = some (.int .i64 r.g)
  r3 : w.cell? ⟨d, 3, none⟩ = some (.int .i64 r.t)
theorem Ctx.keep {w w' : World} {b d : Nat} {n : Int} {A : Option Addr} {m c : Nat} {r : Res} (h : Ctx w b d n A m c r) (k : Keep w w') : Ctx w' b d n A m c r :=
  ⟨k _ _ h.c0, k _ _ h.c1, k _ _ h.r0, k _ _ h.r1, k _ _ h.r2, k _ _ h.r3⟩
theorem box4 (w : World) (x y z t : Value) (T : TypeId) : (w.alloc (.cells #[x, y, z, t] T)).cell? ⟨w.heap.size, 0, none⟩ = some x ∧ (w.alloc (.cells #[x, y, z, t] T)).cell? ⟨w.heap.size, 1, none⟩ = some y ∧ (w.alloc (.cells #[x, y, z, t] T)).cell? ⟨w.heap.size, 2, none⟩ = some z ∧ (w.alloc (.cells #[x, y, z, t] T)).cell? ⟨w.heap.size, 3, none⟩ = some t := by
  have h := heap_alloc_new w (.cells #[x, y, z, t] T)
  refine ⟨?_, ?_, ?_, ?_⟩ <;> (unfold World.cell?; rw [h]; rfl)
theorem box2 (w : World) (x y : Value) (T : TypeId) : (w.alloc (.cells #[x, y] T)).cell? ⟨w.heap.size, 0, none⟩ = some x ∧ (w.alloc (.cells #[x, y] T)).cell? ⟨w.heap.size, 1, none⟩ = some y := by
  have h := heap_alloc_new w (.cells #[x, y] T)
  refine ⟨?_, ?_⟩ <;> (unfold World.cell?; rw [h]; rfl)
set_option maxHeartbeats 2000000 in
theorem lgOk1_c (r : Res) (n : Int) (b : Nat) (A : Option Addr) (m c : Nat) (w : World) (h0 : 0 ≤ n) (h1 : n ≤ 100) (hc0 : w.cell? ⟨b, 0, none⟩ = some (.int .i64 n)) (hc1 : w.cell? ⟨b, 1, none⟩ = some (.slice A m c)) :
    Calls Try.prog 81 #[.agg #[.int .i64 r.h, .int .i64 r.a, .int .i64 r.g, .int .i64 r.t], .pointer (some ⟨b, 0, none⟩)] w (Gives w (.bool (!resOk n r))) := by
  generalize hR : (!resOk n r) = R
  have HR := Lib.hid hR
  clear hR
  have hb1 : Below w.heap.size w (w.alloc (.cells #[.int .i64 r.h, .int .i64 r.a, .int .i64 r.g, .int .i64 r.t] 47)) := (Below.refl _ _).alloc (Nat.le_refl _) _
  obtain ⟨b0, b1, b2, b3⟩ := box4 w (.int .i64 r.h) (.int .i64 r.a) (.int .i64 r.g) (.int .i64 r.t) 47
  have hC0 : Ctx (w.alloc (.cells #[.int .i64 r.h, .int .i64 r.a, .int .i64 r.g, .int .i64 r.t] 47)) b w.heap.size n A m c r := ⟨keep_of_below hb1 _ _ hc0, keep_of_below hb1 _ _ hc1, b0, b1, b2, b3⟩
  obtain ⟨h, a, g, t⟩ := r
  simp only at *
  clear hc0 hc1 b0 b1 b2 b3
  have Hq0 := Lib.hid hb1
  have HC0 := Lib.hid hC0
  clear hC0
  clear hb1
  cases e0 : inR h 0 (n - 1)
  · skip
    have hR2 : true = R := by rw [← HR.out]; simp [resOk, e0]
    have HR2 := Lib.hid hR2
    have E0 := Lib.hid e0
    clear hR2 e0
    clear HR
    go_enter Try.func81, Try.ntmps81
    obtain ⟨c0, c1, r0, r1, r2, r3⟩ := HC0.out
    go_wp2_with fail
    refine (gives_v (has_c n A m c h _ h0 h1) (congrArg Value.bool E0.out)).mono ?_
    rintro e w1 ⟨rfl, hb⟩
    have HC1 := Lib.hid (HC0.out.keep (keep_of_below hb))
    have Hq1 := Lib.hid (Hq0.out.trans (hb.mono Hq0.out.size))
    clear hb
    clear c0 c1 r0 r1 r2 r3
    obtain ⟨c0, c1, r0, r1, r2, r3⟩ := HC1.out
    go_wp2
    go_ret
    exact ⟨ret_bool HR2.out, Hq1.out⟩
  · skip
    cases e1 : inR a 0 (n - 1)
    · skip
      have hR2 : true = R := by rw [← HR.out]; simp [resOk, e0, e1]
      have HR2 := Lib.hid hR2
      have E0 := Lib.hid e0
      have E1 := Lib.hid e1
      clear hR2 e0 e1
      clear HR
      go_enter Try.func81, Try.ntmps81
      obtain ⟨c0, c1, r0, r1, r2, r3⟩ := HC0.out
      go_wp2_with fail
      refine (gives_v (has_c n A m c h _ h0 h1) (congrArg Value.bool E0.out)).mono ?_
      rintro e w1 ⟨rfl, hb⟩
      have HC1 := Lib.hid (HC0.out.keep (keep_of_below hb))
      have Hq1 := Lib.hid (Hq0.out.trans (hb.mono Hq0.out.size))
      clear hb
      clear c0 c1 r0 r1 r2 r3
      obtain ⟨c0, c1, r0, r1, r2, r3⟩ := HC1.out
      go_wp2_with fail
      refine (gives_v (has_c n A m c a _ h0 h1) (congrArg Value.bool E1.out)).mono ?_
      rintro e w2 ⟨rfl, hb⟩
      have HC2 := Lib.hid (HC1.out.keep (keep_of_below hb))
      have Hq2 := Lib.hid (Hq1.out.trans (hb.mono Hq1.out.size))
      clear hb
      clear c0 c1 r0 r1 r2 r3
      obtain ⟨c0, c1, r0, r1, r2, r3⟩ := HC2.out
      go_wp2
      go_ret
      exact ⟨ret_bool HR2.out, Hq2.out⟩
    · skip
      by_cases e2 : h = a
      · skip
        skip
        have hR2 : true = R := by rw [← HR.out]; simp [resOk, e0, e1, e2]
        subst e2
        have HR2 := Lib.hid hR2
        have E0 := Lib.hid e0
        have E1 := Lib.hid e1
        clear hR2 e0 e1
        clear HR
        go_enter Try.func81, Try.ntmps81
        obtain ⟨c0, c1, r0, r1, r2, r3⟩ := HC0.out
        go_wp2_with fail
        refine (gives_v (has_c n A m c h _ h0 h1) (congrArg Value.bool E0.out)).mono ?_
        rintro e w1 ⟨rfl, hb⟩
        have HC1 := Lib.hid (HC0.out.keep (keep_of_below hb))
        have Hq1 := Lib.hid (Hq0.out.trans (hb.mono Hq0.out.size))
        clear hb
        clear c0 c1 r0 r1 r2 r3
        obtain ⟨c0, c1, r0, r1, r2, r3⟩ := HC1.out
        go_wp2_with fail
        refine (gives_v (has_c n A m c h _ h0 h1) (congrArg Value.bool E1.out)).mono ?_
        rintro e w2 ⟨rfl, hb⟩
        have HC2 := Lib.hid (HC1.out.keep (keep_of_below hb))
        have Hq2 := Lib.hid (Hq1.out.trans (hb.mono Hq1.out.size))
        clear hb
        clear c0 c1 r0 r1 r2 r3
        obtain ⟨c0, c1, r0, r1, r2, r3⟩ := HC2.out
        go_wp2
        go_ret
        exact ⟨ret_bool HR2.out, Hq2.out⟩
      · skip
        cases e3 : inR g 0 99
        · skip
          have hR2 : true = R := by rw [← HR.out]; simp [resOk, e0, e1, e2, e3]
          have e2b : (h == a) = false := by simp [e2]
          have HR2 := Lib.hid hR2
          have E0 := Lib.hid e0
          have E1 := Lib.hid e1
          have E3 := Lib.hid e3
          clear hR2 e0 e1 e3
          clear HR
          clear e2
          go_enter Try.func81, Try.ntmps81
          obtain ⟨c0, c1, r0, r1, r2, r3⟩ := HC0.out
          go_wp2_with fail
          refine (gives_v (has_c n A m c h _ h0 h1) (congrArg Value.bool E0.out)).mono ?_
          rintro e w1 ⟨rfl, hb⟩
          have HC1 := Lib.hid (HC0.out.keep (keep_of_below hb))
          have Hq1 := Lib.hid (Hq0.out.trans (hb.mono Hq0.out.size))
          clear hb
          clear c0 c1 r0 r1 r2 r3
          obtain ⟨c0, c1, r0, r1, r2, r3⟩ := HC1.out
          go_wp2_with fail
          refine (gives_v (has_c n A m c a _ h0 h1) (congrArg Value.bool E1.out)).mono ?_
          rintro e w2 ⟨rfl, hb⟩
          have HC2 := Lib.hid (HC1.out.keep (keep_of_below hb))
          have Hq2 := Lib.hid (Hq1.out.trans (hb.mono Hq1.out.size))
          clear hb
          clear c0 c1 r0 r1 r2 r3
          obtain ⟨c0, c1, r0, r1, r2, r3⟩ := HC2.out
          go_wp2_with fail
          refine (calls_v (within_c g 0 99 _) (congrArg Value.bool E3.out)).mono ?_
          rintro e w3 ⟨rfl, hq⟩
          have HC3 := Lib.hid (HC2.out.keep hq.keep)
          have Hq3 := Lib.hid (Hq2.out.trans (hq.below w.heap.size))
          clear hq
          clear c0 c1 r0 r1 r2 r3
          obtain ⟨c0, c1, r0, r1, r2, r3⟩ := HC3.out
          go_wp2
          go_ret
          exact ⟨ret_bool HR2.out, Hq3.out⟩
        · skip
          cases e4 : inR t 0 99
          · skip
            have hR2 : true = R := by rw [← HR.out]; simp [resOk, e0, e1, e2, e3, e4]
            have e2b : (h == a) = false := by simp [e2]
            have HR2 := Lib.hid hR2
            have E0 := Lib.hid e0
            have E1 := Lib.hid e1
            have E3 := Lib.hid e3
            have E4 := Lib.hid e4
            clear hR2 e0 e1 e3 e4
            clear HR
            clear e2
            go_enter Try.func81, Try.ntmps81
            obtain ⟨c0, c1, r0, r1, r2, r3⟩ := HC0.out
            go_wp2_with fail
            refine (gives_v (has_c n A m c h _ h0 h1) (congrArg Value.bool E0.out)).mono ?_
            rintro e w1 ⟨rfl, hb⟩
            have HC1 := Lib.hid (HC0.out.keep (keep_of_below hb))
            have Hq1 := Lib.hid (Hq0.out.trans (hb.mono Hq0.out.size))
            clear hb
            clear c0 c1 r0 r1 r2 r3
            obtain ⟨c0, c1, r0, r1, r2, r3⟩ := HC1.out
            go_wp2_with fail
            refine (gives_v (has_c n A m c a _ h0 h1) (congrArg Value.bool E1.out)).mono ?_
            rintro e w2 ⟨rfl, hb⟩
            have HC2 := Lib.hid (HC1.out.keep (keep_of_below hb))
            have Hq2 := Lib.hid (Hq1.out.trans (hb.mono Hq1.out.size))
            clear hb
            clear c0 c1 r0 r1 r2 r3
            obtain ⟨c0, c1, r0, r1, r2, r3⟩ := HC2.out
            go_wp2_with fail
            refine (calls_v (within_c g 0 99 _) (congrArg Value.bool E3.out)).mono ?_
            rintro e w3 ⟨rfl, hq⟩
            have HC3 := Lib.hid (HC2.out.keep hq.keep)
            have Hq3 := Lib.hid (Hq2.out.trans (hq.below w.heap.size))
            clear hq
            clear c0 c1 r0 r1 r2 r3
            obtain ⟨c0, c1, r0, r1, r2, r3⟩ := HC3.out
            go_wp2_with fail
            refine (calls_v (within_c t 0 99 _) (congrArg Value.bool E4.out)).mono ?_
            rintro e w4 ⟨rfl, hq⟩
            have HC4 := Lib.hid (HC3.out.keep hq.keep)
            have Hq4 := Lib.hid (Hq3.out.trans (hq.below w.heap.size))
            clear hq
            clear c0 c1 r0 r1 r2 r3
            obtain ⟨c0, c1, r0, r1, r2, r3⟩ := HC4.out
            go_wp2
            go_ret
            exact ⟨ret_bool HR2.out, Hq4.out⟩
          · skip
            have hR2 : false = R := by rw [← HR.out]; simp [resOk, e0, e1, e2, e3, e4]
            have e2b : (h == a) = false := by simp [e2]
            have HR2 := Lib.hid hR2
            have E0 := Lib.hid e0
            have E1 := Lib.hid e1
            have E3 := Lib.hid e3
            have E4 := Lib.hid e4
            clear hR2 e0 e1 e3 e4
            clear HR
            clear e2
            go_enter Try.func81, Try.ntmps81
            obtain ⟨c0, c1, r0, r1, r2, r3⟩ := HC0.out
            go_wp2_with fail
            refine (gives_v (has_c n A m c h _ h0 h1) (congrArg Value.bool E0.out)).mono ?_
            rintro e w1 ⟨rfl, hb⟩
            have HC1 := Lib.hid (HC0.out.keep (keep_of_below hb))
            have Hq1 := Lib.hid (Hq0.out.trans (hb.mono Hq0.out.size))
            clear hb
            clear c0 c1 r0 r1 r2 r3
            obtain ⟨c0, c1, r0, r1, r2, r3⟩ := HC1.out
            go_wp2_with fail
            refine (gives_v (has_c n A m c a _ h0 h1) (congrArg Value.bool E1.out)).mono ?_
            rintro e w2 ⟨rfl, hb⟩
            have HC2 := Lib.hid (HC1.out.keep (keep_of_below hb))
            have Hq2 := Lib.hid (Hq1.out.trans (hb.mono Hq1.out.size))
            clear hb
            clear c0 c1 r0 r1 r2 r3
            obtain ⟨c0, c1, r0, r1, r2, r3⟩ := HC2.out
            go_wp2_with fail
            refine (calls_v (within_c g 0 99 _) (congrArg Value.bool E3.out)).mono ?_
            rintro e w3 ⟨rfl, hq⟩
            have HC3 := Lib.hid (HC2.out.keep hq.keep)
            have Hq3 := Lib.hid (Hq2.out.trans (hq.below w.heap.size))
            clear hq
            clear c0 c1 r0 r1 r2 r3
            obtain ⟨c0, c1, r0, r1, r2, r3⟩ := HC3.out
            go_wp2_with fail
            refine (calls_v (within_c t 0 99 _) (congrArg Value.bool E4.out)).mono ?_
            rintro e w4 ⟨rfl, hq⟩
            have HC4 := Lib.hid (HC3.out.keep hq.keep)
            have Hq4 := Lib.hid (Hq3.out.trans (hq.below w.heap.size))
            clear hq
            clear c0 c1 r0 r1 r2 r3
            obtain ⟨c0, c1, r0, r1, r2, r3⟩ := HC4.out
            go_wp2
            go_ret
            exact ⟨ret_bool HR2.out, Hq4.out⟩

end Go.Proofs.Ytehlijpjcjegcaa
