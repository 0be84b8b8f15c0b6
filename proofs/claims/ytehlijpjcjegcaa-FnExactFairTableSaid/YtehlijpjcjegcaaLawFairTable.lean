/- For every league the program's FairTable returns what the reference's returns, in new memory each time; the law returns true and leaves its arguments as they were.
   Conditions: none. -/
import Derived.Test.YtehlijpjcjegcaaLgO
import Derived.Test.YtehlijpjcjegcaaFairS
import Derived.Deep.RegionHeld3
namespace Go.Proofs.Ytehlijpjcjegcaa
open Go.ChangeShapes Go.WideShapes Go.ChangeAt Go.RowKit
open Go.ChangeMaps (open_string shut_string)
set_option linter.unusedVariables false
set_option linter.unusedSimpArgs false
structure Two (w : World) (b : Nat) (n : Int) (A : Option Addr) (m c : Nat) : Prop where
  c0 : w.cell? ⟨b, 0, none⟩ = some (.int .i64 n)
  c1 : w.cell? ⟨b, 1, none⟩ = some (.slice A m c)
theorem Two.keep {w w' : World} {b : Nat} {n : Int} {A : Option Addr} {m c : Nat} (h : Two w b n A m c) (k : Keep w w') : Two w' b n A m c := ⟨k _ _ h.c0, k _ _ h.c1⟩
theorem Two.only {lo hi : Nat} {w w' : World} {b : Nat} {n : Int} {A : Option Addr} {m c : Nat} (h : Two w b n A m c) (k : Only lo hi w w') (hd : b < lo ∨ hi ≤ b) : Two w' b n A m c := ⟨cell_only k h.c0 hd, cell_only k h.c1 hd⟩
theorem keep5 {wc W w' : World} {a b c d : Addr} {x y z t : Value} (h : W.cell? a = some x ∧ W.cell? b = some y ∧ W.cell? c = some z ∧ W.cell? d = some t ∧ Below wc.heap.size wc W) (hb : Below W.heap.size W w') :
    w'.cell? a = some x ∧ w'.cell? b = some y ∧ w'.cell? c = some z ∧ w'.cell? d = some t ∧ Below wc.heap.size wc w' :=
  have k := keep_of_below hb
  ⟨k _ _ h.1, k _ _ h.2.1, k _ _ h.2.2.1, k _ _ h.2.2.2.1, h.2.2.2.2.trans (hb.mono h.2.2.2.2.size)⟩
theorem last5 {wc W : World} {a b c d : Addr} {x y z t : Value} (h : W.cell? a = some x ∧ W.cell? b = some y ∧ W.cell? c = some z ∧ W.cell? d = some t ∧ Below wc.heap.size wc W) : Below wc.heap.size wc W := h.2.2.2.2

set_option maxRecDepth 100000 in
set_option maxHeartbeats 4000000 in
theorem fnExactFairTable_walk (w : World) (a0 : Int) (A0 : Option Addr) (c0 : Nat) (x0 : List Res) (w0 : I64 a0) (g0 : Games w A0 x0) (l0 : x0.length ≤ c0) (m0 : c0 ≤ maxLen) (z0 : ∀ r ∈ x0, I64r r)  :
    Calls Try.prog 9 #[lgv a0 A0 x0.length c0] w fun e w' => e = .returned (.bool true) ∧ Below w.heap.size w w' := by
  obtain ⟨N, hN⟩ : ∃ N, x0.length = N := ⟨_, rfl⟩
  have hnm : N ≤ maxLen := by rw [← hN]; exact Nat.le_trans l0 m0
  have hsz := fun W => szLeague_c a0 A0 N c0 W hnm
  obtain ⟨b0, b1⟩ := box2 w (.int .i64 a0) (.slice A0 N c0) 24
  have hb0 : Below w.heap.size w (w.alloc (.cells #[.int .i64 a0, .slice A0 N c0] 24)) := (Below.refl _ _).alloc (Nat.le_refl _) _
  rw [hN]
  simp only [lgv] at hsz ⊢
  by_cases hb : 1048576 < N
  · have e : (if (1048576 : Int) - (N : Int) < 0 then (-1 : Int) else 1048576 - (N : Int)) = -1 := by rw [if_pos (by omega)]
    rw [e] at hsz
    have Hsz := Lib.hid hsz
    have Hb0 := Lib.hid hb0
    have HN := Lib.hid hN
    have G0 := Lib.hid g0
    have Z0 := Lib.hid z0
    clear hsz hb0 hN g0 z0
    go_enter Try.func9, Try.ntmps9
    go_wp2_with fail
    refine (Hsz.out _).mono ?_
    rintro e w1 ⟨rfl, hb1⟩
    go_wp2
    go_ret
    exact ⟨rfl, Hb0.out.trans (hb1.mono Hb0.out.size)⟩
  · have hm : x0.length ≤ 1048576 := by omega
    obtain ⟨Z, hZ⟩ : ∃ Z, (if (1048576 : Int) - (N : Int) < 0 then (-1 : Int) else 1048576 - (N : Int)) = Z := ⟨_, rfl⟩
    have hZ0 : ¬ Z < 0 := by rw [← hZ]; split <;> omega
    rw [hZ] at hsz
    have htl : ∀ (W : World) (B : Option Addr) (d : Nat), Games W B x0 → Calls Try.prog 13 #[.agg #[.int .i64 a0, .slice B N d]] W (fun e w' => ∃ A c, e = .returned (.agg #[.int .i64 a0, .slice A N c]) ∧ Own 47 W.heap.size w'.heap.size w' A (N * 4) (flat x0) ∧ Below W.heap.size W w') := fun W B d h => by rw [← hN]; exact toLeague_c a0 B d x0 W h hm
    have heq := fun W B C d e (h : Games W B x0) (h' : Games W C x0) => eqLeague_c a0 B C d e x0 W h h' hm
    have hsp := fun W B d (h : Games W B x0) => (sFairTable_c a0 B d x0 W h hm)
    have him := fun W B d (h : Games W B x0) => (iFairTable_c a0 B d x0 W h hm)
    have vlen : (nums (fairF a0 x0)).length ≤ 1048576 := fairF_len _ _
    have hml := fun W lo hi B d D (h : OwnN 47 lo hi W B D (N * 4)) (hs : hi ≤ W.heap.size) => markLeague_c a0 lo hi B d D N W h (by omega) hs
    generalize hV : (nums (fairF a0 x0) : List Int) = V at hsp him vlen
    simp only [lgv, hN] at heq hsp him hml
    have Hsz := Lib.hid hsz
    have Hb0 := Lib.hid hb0
    have HN := Lib.hid hN
    have G0 := Lib.hid g0
    have Z0 := Lib.hid z0
    have Htl := Lib.hid htl
    have Heq := Lib.hid heq
    have Hsp := Lib.hid hsp
    have Him := Lib.hid him
    have HV := Lib.hid hV
    have Hml := Lib.hid hml
    have HZ := Lib.hid hZ
    clear hsz hb0 hN g0 z0 htl heq hsp him hV hml hZ
    clear l0 m0
    go_enter Try.func9, Try.ntmps9
    have X0 : Hid (Two (w.alloc (.cells #[.int .i64 a0, .slice A0 N c0] 24)) w.heap.size a0 A0 N c0) := Lib.hid ⟨b0, b1⟩
    have q0 := Hb0
    have s0 : w.heap.size < (w.alloc (.cells #[.int .i64 a0, .slice A0 N c0] 24)).heap.size := by simp
    obtain ⟨Xc0, Xc1⟩ := X0.out
    go_wp2_with fail
    refine (Hsz.out _).mono ?_
    rintro e ws ⟨rfl, hb1⟩
    clear Xc0 Xc1
    have s1 : (w.alloc (.cells #[.int .i64 a0, .slice A0 N c0] 24)).heap.size ≤ ws.heap.size := Below.size hb1
    have q1 := Lib.hid (q0.out.trans (Below.mono hb1 q0.out.size))
    have X1 := Lib.hid (X0.out.keep (keep_of_below hb1))
    clear hb1
    clear b0 b1
    obtain ⟨Xc0, Xc1⟩ := X1.out
    go_wp2_with fail
    refine (Htl.out _ _ _ (G0.out.keep (keep_of_below q1.out))).mono ?_
    rintro e wc1 ⟨C1, d1, rfl, ho1, hb1⟩
    have s2 : ws.heap.size ≤ wc1.heap.size := Below.size hb1
    have q2 := Lib.hid (q1.out.trans (Below.mono hb1 q1.out.size))
    have X2 := Lib.hid (X1.out.keep (keep_of_below hb1))
    have O1 := Lib.hid ho1
    clear ho1 hb1
    clear Xc0 Xc1
    go_wp2_with fail
    refine (Hsp.out _ _ _ (O1.out.games)).mono ?_
    rintro e wr2 ⟨E2, d2, rfl, ho2, hb2⟩
    have s3 : wc1.heap.size ≤ wr2.heap.size := Below.size hb2
    have q3 := Lib.hid (q2.out.trans (Below.mono hb2 q2.out.size))
    have X3 := Lib.hid (X2.out.keep (keep_of_below hb2))
    have O1_3 := Lib.hid (O1.out.below (Below.mono hb2 (by omega : wc1.heap.size ≤ wc1.heap.size)))
    have O2 := Lib.hid ho2
    clear ho2 hb2
    obtain ⟨Xc0, Xc1⟩ := X3.out
    go_wp2_with fail
    refine (Htl.out _ _ _ (G0.out.keep (keep_of_below q3.out))).mono ?_
    rintro e wc3 ⟨C3, d3, rfl, ho3, hb3⟩
    have s4 : wr2.heap.size ≤ wc3.heap.size := Below.size hb3
    have q4 := Lib.hid (q3.out.trans (Below.mono hb3 q3.out.size))
    have X4 := Lib.hid (X3.out.keep (keep_of_below hb3))
    have O2_4 := Lib.hid (O2.out.below (Below.mono hb3 (by omega : wr2.heap.size ≤ wr2.heap.size)))
    have O3 := Lib.hid ho3
    clear ho3 hb3
    clear Xc0 Xc1
    obtain ⟨Xc0, Xc1⟩ := X4.out
    go_wp2_with fail
    have hbv : ∀ v T, Below wc3.heap.size wc3 (wc3.alloc (.cells v T)) := fun v T => (Below.refl _ _).alloc (Nat.le_refl _) _
    obtain ⟨wv, hwv⟩ : ∃ wv, wv = wc3.alloc (.cells #[.int .i64 a0, .slice C3 N d3] 29) := ⟨_, rfl⟩
    have hvb : Below wc3.heap.size wc3 wv := by rw [hwv]; exact hbv _ _
    have Yv : Hid (Two wv wc3.heap.size a0 C3 N d3) := Lib.hid (by rw [hwv]; exact ⟨(box2 _ _ _ _).1, (box2 _ _ _ _).2⟩)
    rw [← hwv]
    clear Xc0 Xc1
    have s5 : wc3.heap.size ≤ wv.heap.size := Below.size hvb
    have q5 := Lib.hid (q4.out.trans (Below.mono hvb q4.out.size))
    have X5 := Lib.hid (X4.out.keep (keep_of_below hvb))
    have O2_5 := Lib.hid (O2_4.out.below (Below.mono hvb (by omega : wr2.heap.size ≤ wc3.heap.size)))
    have O3_5 := Lib.hid (O3.out.below (Below.mono hvb (by omega : wc3.heap.size ≤ wc3.heap.size)))
    clear hwv hvb hbv
    obtain ⟨Yc0, Yc1⟩ := Yv.out
    refine (Him.out _ _ _ (O3_5.out.games)).mono ?_
    rintro e wr4 ⟨E4, d4, rfl, ho4, hb4⟩
    clear Yc0 Yc1
    have s6 : wv.heap.size ≤ wr4.heap.size := Below.size hb4
    have q6 := Lib.hid (q5.out.trans (Below.mono hb4 q5.out.size))
    have X6 := Lib.hid (X5.out.keep (keep_of_below hb4))
    have Y6 := Lib.hid (Yv.out.keep (keep_of_below hb4))
    have O2_6 := Lib.hid (O2_5.out.below (Below.mono hb4 (by omega : wr2.heap.size ≤ wv.heap.size)))
    have O3_6 := Lib.hid (O3_5.out.below (Below.mono hb4 (by omega : wc3.heap.size ≤ wv.heap.size)))
    have O4 := Lib.hid ho4
    clear ho4 hb4
    go_wp2_with fail
    refine (calls_v (eqIntS_c _ _ _ _ _ _ _ (O4.out.ints) (O2_6.out.ints) (by unfold maxLen; omega)) (congrArg Value.bool (decide_eq_true rfl))).mono ?_
    rintro e we5 ⟨rfl, hq⟩
    have s7 : wr4.heap.size ≤ we5.heap.size := Below.size (hq.below wr4.heap.size)
    have q7 := Lib.hid (q6.out.trans (Below.mono (hq.below wr4.heap.size) q6.out.size))
    have X7 := Lib.hid (X6.out.keep (keep_of_below (hq.below wr4.heap.size)))
    have Y7 := Lib.hid (Y6.out.keep (keep_of_below (hq.below wr4.heap.size)))
    have O2_7 := Lib.hid (O2_6.out.below (Below.mono (hq.below wr4.heap.size) (by omega : wr2.heap.size ≤ wr4.heap.size)))
    have O3_7 := Lib.hid (O3_6.out.below (Below.mono (hq.below wr4.heap.size) (by omega : wc3.heap.size ≤ wr4.heap.size)))
    have O4_7 := Lib.hid (O4.out.below (Below.mono (hq.below wr4.heap.size) (by omega : wr4.heap.size ≤ wr4.heap.size)))
    clear hq
    obtain ⟨Xc0, Xc1⟩ := X7.out
    obtain ⟨Yc0, Yc1⟩ := Y7.out
    go_wp2
    have hgX := (G0.out.keep (keep_of_below q7.out))
    have hgY := O3_7.out.games
    have HgX := Lib.hid hgX
    have HgY := Lib.hid hgY
    clear hgX hgY
    go_region_held3 (fun W' => W'.cell? ⟨w.heap.size, 0, none⟩ = some (.int .i64 a0) ∧ W'.cell? ⟨w.heap.size, 1, none⟩ = some (.slice A0 N c0) ∧ W'.cell? ⟨wc3.heap.size, 0, none⟩ = some (.int .i64 a0) ∧ W'.cell? ⟨wc3.heap.size, 1, none⟩ = some (.slice C3 N d3) ∧ Below we5.heap.size we5 W') (first | exact ⟨Xc0, Xc1, Yc0, Yc1, ⟨rfl, rfl, rfl, Nat.le_refl _, fun _ _ => rfl⟩⟩ | exact keep5 (by assumption) (by assumption))
      (first
        | (go_at_call 13; refine (Htl.out _ _ _ (HgX.out.keep (keep_of_below (last5 (by assumption))))).mono ?_; rintro e w' ⟨B, d, rfl, ho, hb⟩)
        | (go_at_call 15; refine (Heq.out _ _ _ _ _ (HgY.out.keep (keep_of_below (last5 (by assumption)))) (Own.games (by assumption))).mono ?_; rintro e w' ⟨rfl, hb⟩))
    all_goals
      have hbl : Below we5.heap.size we5 w' := last5 (by assumption)
      have s8 : we5.heap.size ≤ w'.heap.size := Below.size hbl
      have q8 := Lib.hid (q7.out.trans (Below.mono hbl q7.out.size))
      have X8 := Lib.hid (X7.out.keep (keep_of_below hbl))
      have Y8 := Lib.hid (Y7.out.keep (keep_of_below hbl))
      have O2_8 := Lib.hid (O2_7.out.below (Below.mono hbl (by omega : wr2.heap.size ≤ we5.heap.size)))
      have O3_8 := Lib.hid (O3_7.out.below (Below.mono hbl (by omega : wc3.heap.size ≤ we5.heap.size)))
      have O4_8 := Lib.hid (O4_7.out.below (Below.mono hbl (by omega : wr4.heap.size ≤ we5.heap.size)))
      clear hbl
      obtain ⟨Yc0, Yc1⟩ := Y8.out
      go_wp2_with fail
      refine (Hml.out _ _ _ _ _ _ ⟨_, by rw [flat_length, HN.out], O3_8.out⟩ (by omega)).mono ?_
      rintro e wm ⟨wm1, rfl, hbm, hym⟩
      clear Yc0 Yc1
      have s9 : w'.heap.size ≤ wm1.heap.size := Below.size hbm
      have q9 := Lib.hid (q8.out.trans (Below.mono hbm q8.out.size))
      have X9 := Lib.hid (X8.out.keep (keep_of_below hbm))
      have Y9 := Lib.hid (Y8.out.keep (keep_of_below hbm))
      have O2_9 := Lib.hid (O2_8.out.below (Below.mono hbm (by omega : wr2.heap.size ≤ w'.heap.size)))
      have O3_9 := Lib.hid (O3_8.out.below (Below.mono hbm (by omega : wc3.heap.size ≤ w'.heap.size)))
      have O4_9 := Lib.hid (O4_8.out.below (Below.mono hbm (by omega : wr4.heap.size ≤ w'.heap.size)))
      have s10 : wm1.heap.size ≤ wm.heap.size := Only.size hym
      have q10 := Lib.hid (q9.out.trans (below_of_only hym (by omega) q9.out.size))
      have X10 := Lib.hid (X9.out.only hym (by omega))
      have O2_10 := Lib.hid (O2_9.out.only hym (by omega) (by omega))
      have O4_10 := Lib.hid (O4_9.out.only hym (by omega) (by omega))
      clear hbm hym
      go_wp2_with fail
      refine (calls_v (eqIntS_c _ _ _ _ _ _ _ (O4_10.out.ints) (O2_10.out.ints) (by unfold maxLen; omega)) (congrArg Value.bool (decide_eq_true rfl))).mono ?_
      rintro e we6 ⟨rfl, hq⟩
      have s11 : wm.heap.size ≤ we6.heap.size := Below.size (hq.below wm.heap.size)
      have q11 := Lib.hid (q10.out.trans (Below.mono (hq.below wm.heap.size) q10.out.size))
      have X11 := Lib.hid (X10.out.keep (keep_of_below (hq.below wm.heap.size)))
      have O2_11 := Lib.hid (O2_10.out.below (Below.mono (hq.below wm.heap.size) (by omega : wr2.heap.size ≤ wm.heap.size)))
      have O4_11 := Lib.hid (O4_10.out.below (Below.mono (hq.below wm.heap.size) (by omega : wr4.heap.size ≤ wm.heap.size)))
      clear hq
      go_wp2_with fail
      refine (markIntS_c _ _ _ _ _ _ _ O4_11.out (by omega) (by omega) (by omega)).mono ?_
      rintro e wm2 ⟨rfl, hom, hym⟩
      have s12 : we6.heap.size ≤ wm2.heap.size := Only.size hym
      have q12 := Lib.hid (q11.out.trans (below_of_only hym (by omega) q11.out.size))
      have X12 := Lib.hid (X11.out.only hym (by omega))
      have O2_12 := Lib.hid (O2_11.out.only hym (by omega) (by omega))
      have Om := Lib.hid hom
      clear hom hym
      go_wp2_with fail
      refine (heldIntS_c _ _ _ _ _ (Om.out.ints) (by omega) (by omega) (by omega)).mono ?_
      rintro e wh7 ⟨rfl, hq⟩
      have s13 : wm2.heap.size ≤ wh7.heap.size := Below.size (hq.below wm2.heap.size)
      have q13 := Lib.hid (q12.out.trans (Below.mono (hq.below wm2.heap.size) q12.out.size))
      have X13 := Lib.hid (X12.out.keep (keep_of_below (hq.below wm2.heap.size)))
      have O2_13 := Lib.hid (O2_12.out.below (Below.mono (hq.below wm2.heap.size) (by omega : wr2.heap.size ≤ wm2.heap.size)))
      have Om_13 := Lib.hid (Om.out.below (Below.mono (hq.below wm2.heap.size) (by omega : wr4.heap.size ≤ wm2.heap.size)))
      clear hq
      obtain ⟨Xc0, Xc1⟩ := X13.out
      go_wp2_with fail
      refine (Htl.out _ _ _ (G0.out.keep (keep_of_below q13.out))).mono ?_
      rintro e wc8 ⟨C8, d8, rfl, ho8, hb8⟩
      have s14 : wh7.heap.size ≤ wc8.heap.size := Below.size hb8
      have q14 := Lib.hid (q13.out.trans (Below.mono hb8 q13.out.size))
      have X14 := Lib.hid (X13.out.keep (keep_of_below hb8))
      have O2_14 := Lib.hid (O2_13.out.below (Below.mono hb8 (by omega : wr2.heap.size ≤ wh7.heap.size)))
      have Om_14 := Lib.hid (Om_13.out.below (Below.mono hb8 (by omega : wr4.heap.size ≤ wh7.heap.size)))
      have O8 := Lib.hid ho8
      clear ho8 hb8
      clear Xc0 Xc1
      go_wp2_with fail
      refine (Him.out _ _ _ (O8.out.games)).mono ?_
      rintro e wr9 ⟨E9, d9, rfl, ho9, hb9⟩
      have s15 : wc8.heap.size ≤ wr9.heap.size := Below.size hb9
      have q15 := Lib.hid (q14.out.trans (Below.mono hb9 q14.out.size))
      have X15 := Lib.hid (X14.out.keep (keep_of_below hb9))
      have O2_15 := Lib.hid (O2_14.out.below (Below.mono hb9 (by omega : wr2.heap.size ≤ wc8.heap.size)))
      have Om_15 := Lib.hid (Om_14.out.below (Below.mono hb9 (by omega : wr4.heap.size ≤ wc8.heap.size)))
      have O8_15 := Lib.hid (O8.out.below (Below.mono hb9 (by omega : wc8.heap.size ≤ wc8.heap.size)))
      have O9 := Lib.hid ho9
      clear ho9 hb9
      go_wp2_with fail
      refine (calls_v (eqIntS_c _ _ _ _ _ _ _ (O9.out.ints) (O2_15.out.ints) (by unfold maxLen; omega)) (congrArg Value.bool (decide_eq_true rfl))).mono ?_
      rintro e we10 ⟨rfl, hq⟩
      have s16 : wr9.heap.size ≤ we10.heap.size := Below.size (hq.below wr9.heap.size)
      have q16 := Lib.hid (q15.out.trans (Below.mono (hq.below wr9.heap.size) q15.out.size))
      have X16 := Lib.hid (X15.out.keep (keep_of_below (hq.below wr9.heap.size)))
      have O2_16 := Lib.hid (O2_15.out.below (Below.mono (hq.below wr9.heap.size) (by omega : wr2.heap.size ≤ wr9.heap.size)))
      have Om_16 := Lib.hid (Om_15.out.below (Below.mono (hq.below wr9.heap.size) (by omega : wr4.heap.size ≤ wr9.heap.size)))
      have O9_16 := Lib.hid (O9.out.below (Below.mono (hq.below wr9.heap.size) (by omega : wr9.heap.size ≤ wr9.heap.size)))
      clear hq
      go_wp2_with fail
      refine (heldIntS_c _ _ _ _ _ (Om_16.out.ints) (by omega) (by omega) (by omega)).mono ?_
      rintro e wh11 ⟨rfl, hq⟩
      have s17 : we10.heap.size ≤ wh11.heap.size := Below.size (hq.below we10.heap.size)
      have q17 := Lib.hid (q16.out.trans (Below.mono (hq.below we10.heap.size) q16.out.size))
      have X17 := Lib.hid (X16.out.keep (keep_of_below (hq.below we10.heap.size)))
      have O2_17 := Lib.hid (O2_16.out.below (Below.mono (hq.below we10.heap.size) (by omega : wr2.heap.size ≤ we10.heap.size)))
      have Om_17 := Lib.hid (Om_16.out.below (Below.mono (hq.below we10.heap.size) (by omega : wr4.heap.size ≤ we10.heap.size)))
      have O9_17 := Lib.hid (O9_16.out.below (Below.mono (hq.below we10.heap.size) (by omega : wr9.heap.size ≤ we10.heap.size)))
      clear hq
      go_wp2
      go_ret
      exact ⟨rfl, q17.out⟩

set_option maxRecDepth 100000 in
theorem fnExactFairTable_lifted (os : Os) (started : os.Started) (H : Type) (enc : TypeId × Value → H) :
    ReturnsInHanded {} Try.checked os 9 .any (Rows.fnExactFairTableSpec.pre6 enc Try.prog Try.f9 Rows.fnExactFairTableRow.domain false) (Rows.fnExactFairTableSpec.post enc Try.prog Try.f9 false true false false) := by
  refine returnsInHanded_of_change (C := Try.checked) own_knob started (by kernel_rfl) Try.func9
    (ChangeSpec.witness6 (enc := enc) (C := Try.checked) false ⟨#[], #[.agg #[.int .i64 0, .slice none 0 0]], []⟩ 8 (by kernel_rfl) (by kernel_rfl) (by kernel_rfl) (by kernel_rfl)) ?_
  intro W base args ds gs before hval0 hW hcnd _
  have hval : ∀ (j : Nat) t v, Try.f9.params[j]? = some t → args[j]? = some v → Value.okWide Try.prog W .any base t v := hval0
  have hW' := hW
  obtain ⟨p, q, hA0, hV, rfl, hfz, hnd⟩ := hW
  have hA : DataW.TrodAll enc Try.prog W 0 (fun _ => true) true Try.f9.params.toList args.toList ds p := hA0
  rw [Try.params9] at hA hval
  obtain ⟨v0, vs0, d0, ds0, p0, q0, hargs, rfl, rfl, h0, r0⟩ := trodAll_cons hA
  obtain ⟨rfl, rfl, rfl⟩ := trodAll_nil r0
  obtain rfl : args = #[v0] := by cases args; simp_all
  obtain ⟨rfl, rfl⟩ := trodVars_none hV
  have hv0 := hval 0 24 v0 rfl rfl
  have k0 := h0
  have lt0 : ∀ x ∈ p0, x.block < W.heap.size := by obtain ⟨m, hm⟩ := k0; exact DataW.trod_lt m _ _ _ hm
  obtain ⟨a0, A0, cap0, xs0, e0, w0, g0, l0, m0, z0⟩ := open_league hv0 h0
  subst e0
  clear hA0 hval0
  refine (fnExactFairTable_walk W a0 A0 cap0 xs0 w0 g0 l0 m0 z0).mono fun e W' ⟨he, bel⟩ => ?_
  subst he
  exact ⟨_, rfl, _, _, _, [], _, [], hW', trodAll_mk1 (shut_bool Try.underlying4 _), (trodAll_cons_mk (Below.trod laid_out (by kernel_rfl) (of_decide_eq_true (by kernel_rfl)) k0 bel lt0) trodAll_mk0), rfl, bel.frame _, fun h => by cases h⟩

theorem fnExactFairTable_holds : Rows.FnExactFairTableSaid :=
  OpenClaim.holds_of_wide 9 Try.f9 rfl rfl rfl rfl rfl rfl rfl ⟨rfl, rfl, rfl, rfl, rfl⟩ rfl rfl rfl rfl rfl (by kernel_rfl) Try.func9 (by kernel_rfl)
    (of_decide_eq_true (by kernel_rfl)) (by unfold Func.isWrapper; first | (rw [if_pos (by decide +kernel)]; kernel_rfl) | (rw [if_neg (by decide +kernel)]; exact ⟨rfl, rfl⟩))
    (fun os started H enc _ => fnExactFairTable_lifted os started H enc)
#print axioms fnExactFairTable_holds

end Go.Proofs.Ytehlijpjcjegcaa
