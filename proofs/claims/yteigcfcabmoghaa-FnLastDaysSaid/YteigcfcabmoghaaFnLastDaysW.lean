/- The walk of the law on last days (FnLastDays): it returns true for every code. -/
import Derived.Test.YteigcfcabmoghaaLastP
import Derived.Test.YteigcfcabmoghaaDayD2
import Derived.Test.YteigcfcabmoghaaCode
import Derived.Test.YteigcfcabmoghaaLsum
import Derived.Test.YteigcfcabmoghaaPast
namespace Go.Proofs.Yteigcfcabmoghaa
open Go.ChangeShapes Go.WideShapes Go.ChangeAt Go.RowKit
set_option linter.unusedVariables false
set_option linter.unusedSimpArgs false

/-- Ints come back, so many. -/
def GivesL (w : World) (xs : List Int) (n : Nat) (e : Ending) (w' : World) : Prop := ∃ A c, e = .returned (.slice A n c) ∧ Ints w' A xs ∧ Below w.heap.size w w'
theorem GivesI_len {w : World} {xs : List Int} {n : Nat} {P : Program} {f : FuncId} {args : Array Value} (h : xs.length = n) (k : Calls P f args w (GivesI 3 w xs)) : Calls P f args w (GivesL w xs n) :=
  k.mono fun e w' ⟨A, c, he, ho, hb⟩ => ⟨A, c, by rw [← h]; exact he, ho.ints, hb⟩
theorem lit_day (W : World) (x y p q : Int) :
    Ints (((W.alloc (.cells #[.int .i64 x, .int .i64 y] 3)).alloc (.cells #[.int .i64 p, .int .i64 q] 3)).alloc (.cells #[.slice (some ⟨W.heap.size + 1, 0, none⟩) 2 2] 22)) (some ⟨W.heap.size, 0, none⟩) [x, y] ∧
    Rows (((W.alloc (.cells #[.int .i64 x, .int .i64 y] 3)).alloc (.cells #[.int .i64 p, .int .i64 q] 3)).alloc (.cells #[.slice (some ⟨W.heap.size + 1, 0, none⟩) 2 2] 22)) (some ⟨W.heap.size + 2, 0, none⟩) [[p, q]] ∧
    Below W.heap.size W (((W.alloc (.cells #[.int .i64 x, .int .i64 y] 3)).alloc (.cells #[.int .i64 p, .int .i64 q] 3)).alloc (.cells #[.slice (some ⟨W.heap.size + 1, 0, none⟩) 2 2] 22)) := by
  have b1 : Below W.heap.size W (W.alloc (.cells #[.int .i64 x, .int .i64 y] 3)) := (Below.refl _ _).alloc (Nat.le_refl _) _
  have z1 : (W.alloc (.cells #[.int .i64 x, .int .i64 y] 3)).heap.size = W.heap.size + 1 := by simp
  have o1 : Own 3 W.heap.size (W.heap.size + 1) (W.alloc (.cells #[.int .i64 x, .int .i64 y] 3)) (some ⟨W.heap.size, 0, none⟩) 2 ([x, y].map (.int .i64)) := own_new2 3 W (.int .i64 x) (.int .i64 y)
  generalize W.alloc (.cells #[.int .i64 x, .int .i64 y] 3) = W1 at b1 z1 o1 ⊢
  have b2 : Below W1.heap.size W1 (W1.alloc (.cells #[.int .i64 p, .int .i64 q] 3)) := (Below.refl _ _).alloc (Nat.le_refl _) _
  have z2 : (W1.alloc (.cells #[.int .i64 p, .int .i64 q] 3)).heap.size = W.heap.size + 2 := by simp [z1]
  have o2 : Own 3 W1.heap.size (W1.heap.size + 1) (W1.alloc (.cells #[.int .i64 p, .int .i64 q] 3)) (some ⟨W1.heap.size, 0, none⟩) 2 ([p, q].map (.int .i64)) := own_new2 3 W1 (.int .i64 p) (.int .i64 q)
  rw [z1] at o2
  generalize W1.alloc (.cells #[.int .i64 p, .int .i64 q] 3) = W2 at b2 z2 o2 ⊢
  have b3 : Below W2.heap.size W2 (W2.alloc (.cells #[.slice (some ⟨W.heap.size + 1, 0, none⟩) 2 2] 22)) := (Below.refl _ _).alloc (Nat.le_refl _) _
  have hc : (W2.alloc (.cells #[.slice (some ⟨W.heap.size + 1, 0, none⟩) 2 2] 22)).cell? ⟨W2.heap.size, 0, none⟩ = some (.slice (some ⟨W.heap.size + 1, 0, none⟩) 2 2) := by simp
  rw [z2] at hc
  generalize W2.alloc (.cells #[.slice (some ⟨W.heap.size + 1, 0, none⟩) 2 2] 22) = W3 at b3 hc ⊢
  refine ⟨(o1.ints.keep (keep_of_below b2)).keep (keep_of_below b3), ?_, (b1.trans (b2.mono b1.size)).trans (b3.mono (Nat.le_trans b1.size b2.size))⟩
  intro k xs hk
  have hk0 : k = 0 := by have := lt_of hk; simpa using this
  subst hk0
  simp at hk
  subst hk
  exact ⟨_, some ⟨W.heap.size + 1, 0, none⟩, 2, rfl, Nat.le_refl _, by unfold maxLen; omega, by rw [Addr.add_zero']; exact hc, o2.ints.keep (keep_of_below b3)⟩

set_option maxRecDepth 100000 in
set_option maxHeartbeats 8000000 in
theorem fnLastDays_walk (w : World) (A : Option Addr) (m c : Nat) (hb : Byt w A m) (hA : ∀ a, A = some a → 0 < m → a.block < w.heap.size) (hm : m ≤ maxLen) :
    Calls Try.prog 12 #[.slice A m c] w fun e w' => e = .returned (.bool true) ∧ Below w.heap.size w w' := by
  by_cases hbig : 1048576 < m
  · have hmi : (1048576 : Int) < (m : Int) := by omega
    clear hb hA hm hmi
    go_enter Try.func12, Try.ntmps12
    go_wp2
    go_ret
    exact ⟨rfl, Below.refl _ _⟩
  · have hmi : ¬ (1048576 : Int) < (m : Int) := by omega
    have hmr : Calls Try.prog 39 #[.slice A m c, .int .i64 0] w (ADay w) := makeDay_c A m c 0 w hb hA (by omega) (by omega)
    have Hmr := Lib.hid hmr
    clear hmr
    clear hb hA hm hbig
    go_enter Try.func12, Try.ntmps12
    go_wp2_with fail
    refine (Hmr.out).mono ?_
    rintro e w1 ⟨AA, BB, c1, d1, pts, games, rfl, hr, ha, hbb, hcap, hd1, hb1⟩
    obtain ⟨f1, f2, f3⟩ := ld_few hr
    obtain ⟨all, hall⟩ : ∃ all, 3 ^ games.length = all := ⟨_, rfl⟩
    obtain ⟨g1, g2⟩ := ld_all f1
    have h1 := ld_first hr
    have h2 := ld_alone hr
    have h3 := ld_fin hr
    rw [hall] at g1 g2 h1 h2 h3
    obtain ⟨dd, hdd⟩ : ∃ dd, decidedF pts games = dd := ⟨_, rfl⟩
    rw [hdd] at h3
    obtain ⟨FSt, hFS⟩ : ∃ x, sumF (fun a => firstF pts games a) pts.length 0 = x := ⟨_, rfl⟩
    obtain ⟨AS, hAS⟩ : ∃ x, sumF (fun a => aloneF pts games a) pts.length 0 = x := ⟨_, rfl⟩
    rw [hFS] at h1
    rw [hAS] at h2 h3
    have hm1 : pts.length ≤ 1048576 := by omega
    obtain ⟨aa, rfl⟩ : ∃ aa, AA = some aa := by
      obtain ⟨v, hv⟩ := some_of (l := pts) (k := 0) (by omega)
      obtain ⟨aa, e, _⟩ := ha 0 v hv
      exact ⟨aa, e⟩
    have HA := Lib.hid ha
    have HB := Lib.hid hbb
    have hce := gives_v (iCountEndings_c (some aa) BB c1 d1 pts games w1 ha hbb hm1) (congrArg (Value.int .i64) (show countF pts games = (all : Int) by rw [countF, if_pos hr, hall]))
    have g3 : ¬ (all : Int) < 1 := by omega
    have Hr := Lib.hid hr
    have Hb1 := Lib.hid hb1
    have H3 := Lib.hid h3
    have Hall := Lib.hid hall
    have Hdd := Lib.hid hdd
    have HFS := Lib.hid hFS
    have HAS := Lib.hid hAS
    have Hce := Lib.hid hce
    clear hr hb1 h3 hall hdd hFS hAS hce
    clear ha hbb
    go_wp2_with fail
    refine (Hce.out).mono ?_
    rintro e w2 ⟨rfl, hb2⟩
    have Hk2 := Lib.hid hb2
    clear hb2 Hce
    go_wp2_with fail
    refine (gives_v (iDecidedBy_c (some aa) BB c1 d1 pts games w2 (HA.out.keep (keep_of_below Hk2.out)) (HB.out.keep (keep_of_below Hk2.out)) hm1) (congrArg (Value.int .i64) Hdd.out)).mono ?_
    rintro e w3 ⟨rfl, hb3⟩
    have Hk3 := Lib.hid (Hk2.out.trans (hb3.mono Hk2.out.size))
    clear hb3 Hk2
    go_wp2_with fail
    refine (gives_v (iDayOk_c (some aa) BB c1 d1 pts games w3 (HA.out.keep (keep_of_below Hk3.out)) (HB.out.keep (keep_of_below Hk3.out)) hm1) (congrArg Value.bool Hr.out)).mono ?_
    rintro e w4 ⟨rfl, hb4⟩
    have Hk4 := Lib.hid (Hk3.out.trans (hb4.mono Hk3.out.size))
    clear hb4 Hk3
    go_wp2
    go_loopw [10, 8, 9] (fun i s t wr => ∃ (a : Nat) (x y : Int), a ≤ pts.length ∧ i = .int .i64 a ∧ s = .int .i64 x ∧ t = .int .i64 y ∧ 0 ≤ x ∧ x ≤ 81 * (a : Int) ∧ 0 ≤ y ∧ y ≤ 81 * (a : Int) ∧ x + sumF (fun a => firstF pts games a) (pts.length - a) a = FSt ∧ y + sumF (fun a => aloneF pts games a) (pts.length - a) a = AS ∧ Below w1.heap.size w1 wr) (fun i _ _ _ => pts.length - (intOf i).toNat)
    case atStart => exact ⟨0, 0, 0, Nat.zero_le _, rfl, rfl, rfl, by omega, by omega, by omega, by omega, by rw [Int.zero_add]; exact HFS.out, by rw [Int.zero_add]; exact HAS.out, Hk4.out⟩
    case round =>
      clear Hk4
      obtain ⟨a, fs, al, ha, rfl, rfl, rfl, x0, x1, y0, y1, hSF, hSA, hk⟩ := hrel
      have Hk := Lib.hid hk
      have HSF := Lib.hid hSF
      have HSA := Lib.hid hSA
      clear hk hSF hSA
      by_cases hlt : a < pts.length
      · have hlti : (a : Int) < (pts.length : Int) := by omega
        obtain ⟨p1, p2, p3, p4⟩ := ld_places Hr.out hlt
        obtain ⟨b1, b2, b3⟩ := ld_bounds Hr.out hlt
        have hdec := ld_dec Hr.out hlt
        rw [Hall.out] at p2 b3 hdec
        rw [Hdd.out] at hdec
        obtain ⟨L, hL⟩ : ∃ L, placesF pts games a = L := ⟨_, rfl⟩
        obtain ⟨f, hf⟩ : ∃ f, firstF pts games a = f := ⟨_, rfl⟩
        obtain ⟨x, hx⟩ : ∃ x, aloneF pts games a = x := ⟨_, rfl⟩
        have HF2 : Hid (fs + f + sumF (fun a => firstF pts games a) (pts.length - (a + 1)) (a + 1) = FSt) := Lib.hid (by have := HSF.out; rw [show pts.length - a = (pts.length - (a + 1)) + 1 from by omega, sumF, hf] at this; omega)
        have HA2 : Hid (al + x + sumF (fun a => aloneF pts games a) (pts.length - (a + 1)) (a + 1) = AS) := Lib.hid (by have := HSA.out; rw [show pts.length - a = (pts.length - (a + 1)) + 1 from by omega, sumF, hx] at this; omega)
        rw [hL, hf] at p3
        rw [hL] at p1 p2 p4
        rw [hf] at b2 b3
        rw [hx] at b1 b2 hdec
        have wf : IntKind.i64.wrap (fs + f) = fs + f := IntWalk.i64_in _ (by omega)
        have wx : IntKind.i64.wrap (al + x) = al + x := IntWalk.i64_in _ (by omega)
        obtain ⟨bb, hbb1⟩ : ∃ bb, (x == (all : Int)) = bb := ⟨_, rfl⟩
        have hbb2 : (dd == (a : Int)) = bb := by rw [← hbb1, Bool.eq_iff_iff, beq_iff_eq, beq_iff_eq]; exact hdec.symm
        obtain ⟨v0, hv0⟩ := some_of (l := L) (k := 0) (by omega)
        have hv0f : v0 = f := by rw [← p3, List.getD_eq_getElem?_getD, hv0]; rfl
        subst hv0f
        have nf : (v0 != v0) = false := by simp
        have nn : ((pts.length : Int) != (pts.length : Int)) = false := by simp
        have na : ((all : Int) != (all : Int)) = false := by simp
        have nx1 : ¬ v0 < x := by omega
        have nx2 : ¬ x < 0 := by omega
        have hpc := fun (W : World) (h : Keep w1 W) => GivesI_len (n := pts.length) p1 (by rw [← hL]; exact iCountPlaces_c (some aa) BB c1 d1 pts games a W (HA.out.keep h) (HB.out.keep h) hm1)
        have hfc := fun (W : World) (h : Keep w1 W) => gives_v (iCountFirst_c (some aa) BB c1 d1 pts games a W (HA.out.keep h) (HB.out.keep h) hm1) (congrArg (Value.int .i64) hf)
        have hac := fun (W : World) (h : Keep w1 W) => gives_v (iCountAlone_c (some aa) BB c1 d1 pts games a W (HA.out.keep h) (HB.out.keep h) hm1) (congrArg (Value.int .i64) hx)
        have hec := fun (W : World) (h : Keep w1 W) => iFirstEnding_c (some aa) BB c1 d1 pts games a W (HA.out.keep h) (HB.out.keep h) hm1
        have hnc := fun (W : World) (h : Keep w1 W) => iNeedsWin_c (some aa) BB c1 d1 pts games a W (HA.out.keep h) (HB.out.keep h) hm1
        have hp1i : (L.length : Int) = (pts.length : Int) := by omega
        have Hpc := Lib.hid hpc
        have Hfc := Lib.hid hfc
        have Hac := Lib.hid hac
        have Hv0 := Lib.hid hv0
        have P2 := Lib.hid p2
        have P4 := Lib.hid p4
        clear hpc hfc hac hv0 p2 p4
        clear hL hx p3 hdec HSF HSA
        cases hfe : firstEnd pts games a
        · obtain ⟨n1, n2⟩ := ld_none Hr.out hlt hfe
          have nf0 : ¬ (0 : Int) < v0 := by have := hf; omega
          rw [hfe] at hec
          try simp only [Option.getD_some, Option.isSome_some, Option.getD_none, Option.isSome_none] at hec
          have Hec := Lib.hid hec
          have Hnc := Lib.hid hnc
          have Hfe := Lib.hid hfe
          clear hec hnc hfe
          go_wp2_with fail
          refine (Hpc.out _ (keep_of_below Hk.out)).mono ?_
          rintro e w5 ⟨LA, lc, rfl, hl5, hb5⟩
          have Hk5 := Lib.hid (Hk.out.trans (hb5.mono Hk.out.size))
          have Hl5 := Lib.hid hl5
          clear hb5 hl5 Hk
          go_wp2_with fail
          refine (Hfc.out _ (keep_of_below Hk5.out)).mono ?_
          rintro e w6 ⟨rfl, hb6⟩
          have Hk6 := Lib.hid (Hk5.out.trans (hb6.mono Hk5.out.size))
          have Hl6 := Lib.hid (Hl5.out.keep (keep_of_below hb6))
          clear hb6 Hk5 Hl5
          go_wp2_with fail
          refine (Hac.out _ (keep_of_below Hk6.out)).mono ?_
          rintro e w7 ⟨rfl, hb7⟩
          have Hk7 := Lib.hid (Hk6.out.trans (hb7.mono Hk6.out.size))
          have Hl7 := Lib.hid (Hl6.out.keep (keep_of_below hb7))
          clear hb7 Hk6 Hl6
          go_wp2_with fail
          refine (Hec.out _ (keep_of_below Hk7.out)).mono ?_
          rintro e w8 ⟨EA, ec, rfl, hoe, hb8⟩
          have Hk8 := Lib.hid (Hk7.out.trans (hb8.mono Hk7.out.size))
          have Hl8 := Lib.hid (Hl7.out.keep (keep_of_below hb8))
          have Hoe := Lib.hid hoe.ints
          clear hb8 hoe Hk7 Hl7
          have hsm := calls_v (lsum_c LA lc L w8 Hl8.out (by omega) (fun v hv => by have := P4.out v hv; omega)) (congrArg (Value.int .i64) P2.out)
          rw [p1] at hsm
          obtain ⟨la, rfl, hcl⟩ := Hl8.out 0 v0 Hv0.out
          have Hsm := Lib.hid hsm
          clear hsm
          go_wp2_with fail
          refine (Hsm.out).mono ?_
          rintro e w9 ⟨rfl, hq9⟩
          have Hk9 := Lib.hid (Hk8.out.trans (hq9.below w1.heap.size))
          have hcl9 := hq9.keep _ _ hcl
          rw [Addr.add_zero'] at hcl9
          have Hoe9 := Lib.hid (Hoe.out.keep hq9.keep)
          clear hq9 Hk8 Hl8 hcl Hsm Hoe
          have hncc := fun (W : World) (h : Keep w1 W) => gives_v (Hnc.out W h) (congrArg Value.bool n2)
          have Hncc := Lib.hid hncc
          clear hncc
          clear Hnc n1 n2
          go_wp2_with fail
          refine (Hncc.out _ (keep_of_below Hk9.out)).mono ?_
          rintro e wa ⟨rfl, hba⟩
          have Hka := Lib.hid (Hk9.out.trans (hba.mono Hk9.out.size))
          clear hba Hk9
          go_wp2
          go_roundw
          case rel => exact ⟨a + 1, fs + v0, al + x, by omega, by go_num, rfl, rfl, by omega, by omega, by omega, by omega, HF2.out, HA2.out, Hka.out⟩
          case measure => simp [intOf]; omega
        · rename_i E
          obtain ⟨n1, n2, n3, n4, n5⟩ := ld_some Hr.out hlt hfe
          have nf0 : (0 : Int) < v0 := by have := hf; omega
          obtain ⟨pa, hpa⟩ := some_of hlt
          have hpaD : pts.getD a 0 = pa := by rw [List.getD_eq_getElem?_getD, hpa]; rfl
          obtain ⟨D, hD⟩ : ∃ D, afterDayF pts games E = D := ⟨_, rfl⟩
          rw [hD] at n3 n4 n5
          obtain ⟨da, hda⟩ := some_of (l := D) (k := a) (by omega)
          have hdaD : D.getD a 0 = da := by rw [List.getD_eq_getElem?_getD, hda]; rfl
          rw [hdaD] at n4 n5
          rw [hpaD] at n5
          have hEl : ((E.length : Int) != (games.length : Int)) = false := by simp [n2]
          have hE20 : E.length ≤ 1048576 := by omega
          have N2 := Lib.hid n2
          clear n2
          rw [hfe] at hec
          try simp only [Option.getD_some, Option.isSome_some, Option.getD_none, Option.isSome_none] at hec
          have Hec := Lib.hid hec
          have Hnc := Lib.hid hnc
          have Hfe := Lib.hid hfe
          clear hec hnc hfe
          go_wp2_with fail
          refine (Hpc.out _ (keep_of_below Hk.out)).mono ?_
          rintro e w5 ⟨LA, lc, rfl, hl5, hb5⟩
          have Hk5 := Lib.hid (Hk.out.trans (hb5.mono Hk.out.size))
          have Hl5 := Lib.hid hl5
          clear hb5 hl5 Hk
          go_wp2_with fail
          refine (Hfc.out _ (keep_of_below Hk5.out)).mono ?_
          rintro e w6 ⟨rfl, hb6⟩
          have Hk6 := Lib.hid (Hk5.out.trans (hb6.mono Hk5.out.size))
          have Hl6 := Lib.hid (Hl5.out.keep (keep_of_below hb6))
          clear hb6 Hk5 Hl5
          go_wp2_with fail
          refine (Hac.out _ (keep_of_below Hk6.out)).mono ?_
          rintro e w7 ⟨rfl, hb7⟩
          have Hk7 := Lib.hid (Hk6.out.trans (hb7.mono Hk6.out.size))
          have Hl7 := Lib.hid (Hl6.out.keep (keep_of_below hb7))
          clear hb7 Hk6 Hl6
          go_wp2_with fail
          refine (Hec.out _ (keep_of_below Hk7.out)).mono ?_
          rintro e w8 ⟨EA, ec, rfl, hoe, hb8⟩
          have Hk8 := Lib.hid (Hk7.out.trans (hb8.mono Hk7.out.size))
          have Hl8 := Lib.hid (Hl7.out.keep (keep_of_below hb8))
          have Hoe := Lib.hid hoe.ints
          clear hb8 hoe Hk7 Hl7
          have hsm := calls_v (lsum_c LA lc L w8 Hl8.out (by omega) (fun v hv => by have := P4.out v hv; omega)) (congrArg (Value.int .i64) P2.out)
          rw [p1] at hsm
          obtain ⟨la, rfl, hcl⟩ := Hl8.out 0 v0 Hv0.out
          have Hsm := Lib.hid hsm
          clear hsm
          go_wp2_with fail
          refine (Hsm.out).mono ?_
          rintro e w9 ⟨rfl, hq9⟩
          have Hk9 := Lib.hid (Hk8.out.trans (hq9.below w1.heap.size))
          have hcl9 := hq9.keep _ _ hcl
          rw [Addr.add_zero'] at hcl9
          have Hoe9 := Lib.hid (Hoe.out.keep hq9.keep)
          clear hq9 Hk8 Hl8 hcl Hsm Hoe
          have hag := GivesI_len n3 (by rw [← hD]; exact iAfterDay_c (some aa) BB EA c1 d1 ec pts games E w9 (HA.out.keep (keep_of_below Hk9.out)) (HB.out.keep (keep_of_below Hk9.out)) Hoe9.out hm1 hE20)
          have Hag := Lib.hid hag
          have HD := Lib.hid hD
          have N4 := Lib.hid n4
          have N5 := Lib.hid n5
          have Hpa := Lib.hid hpa
          have Hda := Lib.hid hda
          have HpaD := Lib.hid hpaD
          have HdaD := Lib.hid hdaD
          clear hag hD n4 n5 hpa hda hpaD hdaD
          go_wp2_with fail
          refine Hag.out.mono ?_
          rintro e wa ⟨DA, dc, rfl, hie, hba⟩
          have Hka := Lib.hid (Hk9.out.trans (hba.mono Hk9.out.size))
          obtain ⟨xa, rfl, hxc⟩ := hie a da Hda.out
          have Hie := Lib.hid hie
          clear hba hie Hk9
          go_wp2
          clear hxc
          go_loopw [133] (fun i wr => ∃ j : Nat, j ≤ pts.length ∧ i = .int .i64 j ∧ Dr wa wr) (fun i _ => pts.length - (intOf i).toNat)
          case atStart => exact ⟨0, Nat.zero_le _, rfl, Dr.refl _⟩
          case round =>
            obtain ⟨j, hj, rfl, hd⟩ := hrel
            have Hd := Lib.hid hd
            clear hd
            obtain ⟨ae, ee, hxc⟩ := Hie.out.keep Hd.out.keep a da Hda.out
            obtain rfl : xa = ae := by injection ee
            clear ee
            by_cases hltj : j < pts.length
            · have hltji : (j : Int) < (pts.length : Int) := by omega
              obtain ⟨y, hy⟩ := some_of (l := D) (k := j) (by omega)
              have hyb := N4.out y (List.mem_of_getElem? hy)
              have hyn : ¬ da < y := by omega
              obtain ⟨ae, ee, hcx⟩ := Hie.out.keep Hd.out.keep j y hy
              obtain rfl : xa = ae := by injection ee
              clear hy ee
              go_wp2
              go_roundw
              case rel => exact ⟨j + 1, by omega, by go_num, Hd.out⟩
              case measure => simp [intOf]; omega
            · obtain rfl : j = pts.length := by omega
              have Hkb := Lib.hid (Hka.out.trans (Hd.out.below w1.heap.size))
              obtain ⟨ap, ep, hpc⟩ := HA.out.keep (keep_of_below Hkb.out) a pa Hpa.out
              obtain rfl : aa = ap := by injection ep
              have c0 : ∀ x : Past wr, x.now.cell? (xa.add a) = some (.int .i64 da) := Past.cell hxc
              have c1' : ∀ x : Past wr, x.now.cell? (aa.add a) = some (.int .i64 pa) := Past.cell hpc
              clear hltj hj ep hxc hpc Hie
              cases hnw : needF pts games a
              · have hncc := fun (W : World) (h : Keep w1 W) => gives_v (Hnc.out W h) (congrArg Value.bool hnw)
                have Hncc := Lib.hid hncc
                have Hnw := Lib.hid hnw
                clear hncc hnw
                clear Hnc
                go_wp2
                refine wp_region_past (by kernel_rfl) (by kernel_rfl) ?_
                repeat (go_big_quiet_step ((go_at_call 36; exact past_gives (Hncc.out _ ((keep_of_below Hkb.out).trans (Past.keep _))))))
                refine wpQuiet_nil ?_
                intro wx hwx
                obtain ⟨⟨wy, hbx⟩, hw⟩ := hwx
                change wx = wy at hw
                subst hw
                have Hkc := Lib.hid (Hkb.out.trans (hbx.mono Hkb.out.size))
                clear hbx c0 c1'
                go_wp2
                go_roundw
                case rel => exact ⟨a + 1, fs + v0, al + x, by omega, by go_num, rfl, rfl, by omega, by omega, by omega, by omega, HF2.out, HA2.out, Hkc.out⟩
                case measure => simp [intOf]; omega
              · have hn5 := N5.out hnw
                have hpb : 0 ≤ pa ∧ pa ≤ 200 := (day_of Hr.out).2 pa (List.mem_of_getElem? Hpa.out)
                have wp3 : IntKind.i64.wrap (pa + 3) = da := by rw [IntWalk.i64_in _ (by omega)]; omega
                have nda : (da != da) = false := by simp
                have hncc := fun (W : World) (h : Keep w1 W) => gives_v (Hnc.out W h) (congrArg Value.bool hnw)
                have Hncc := Lib.hid hncc
                have Hnw := Lib.hid hnw
                have Hn5 := Lib.hid hn5
                clear hncc hnw hn5
                clear Hnc hpb
                go_wp2
                refine wp_region_past (by kernel_rfl) (by kernel_rfl) ?_
                repeat (go_big_quiet_step ((go_at_call 36; exact past_gives (Hncc.out _ ((keep_of_below Hkb.out).trans (Past.keep _))))))
                refine wpQuiet_nil ?_
                intro wx hwx
                obtain ⟨⟨wy, hbx⟩, hw⟩ := hwx
                change wx = wy at hw
                subst hw
                have Hkc := Lib.hid (Hkb.out.trans (hbx.mono Hkb.out.size))
                clear hbx c0 c1'
                go_wp2
                go_roundw
                case rel => exact ⟨a + 1, fs + v0, al + x, by omega, by go_num, rfl, rfl, by omega, by omega, by omega, by omega, HF2.out, HA2.out, Hkc.out⟩
                case measure => simp [intOf]; omega
      · obtain rfl : a = pts.length := by omega
        have ef : fs = FSt := by have := HSF.out; rw [Nat.sub_self, sumF] at this; omega
        have ea : al = AS := by have := HSA.out; rw [Nat.sub_self, sumF] at this; omega
        subst ef; subst ea
        obtain ⟨wg, hwg⟩ : ∃ wg : World, wg = wr := ⟨_, rfl⟩
        rw [← hwg] at Hk ⊢
        clear HSF HSA hlt hwg wr ha
        go_wp2
        go_loopw [166, 19] (fun i t wr => ∃ (j q : Nat), j ≤ games.length ∧ i = .int .i64 j ∧ t = .int .i64 q ∧ 3 ^ j = q ∧ Dr wg wr) (fun i _ _ => games.length - (intOf i).toNat)
        case atStart => exact ⟨0, 1, Nat.zero_le _, rfl, rfl, rfl, Dr.refl _⟩
        case round =>
          obtain ⟨j, q, hj, rfl, rfl, hq, hd⟩ := hrel
          by_cases hltj : j < games.length
          · have hltji : (j : Int) < (games.length : Int) := by omega
            have hq2 : 3 ^ (j + 1) = 3 * q := by rw [Nat.pow_succ, hq, Nat.mul_comm]
            have hq3 : 3 ^ (j + 1) ≤ 81 := (ld_all (by omega)).2
            have hq4 : q ≤ 27 := by omega
            have Hq := Lib.hid hq
            have Hd := Lib.hid hd
            have Hq2 := Lib.hid hq2
            clear hq hd hq2
            clear hq3
            go_wp2
            go_roundw
            case rel => exact ⟨j + 1, 3 * q, by omega, by go_num, by go_num, Hq2.out, Hd.out⟩
            case measure => simp [intOf]; omega
          · obtain rfl : j = games.length := by omega
            have hqa : q = all := by rw [← hq]; exact Hall.out
            subst hqa
            have hk2 : Below w.heap.size w wr := Hb1.out.trans ((Hk.out.trans (hd.below w1.heap.size)).mono Hb1.out.size)
            obtain ⟨l1, l2, l3⟩ := lit_day wr 3 1 0 1
            have hcf := gives_v (iCountFirst_c (some ⟨wr.heap.size, 0, none⟩) (some ⟨wr.heap.size + 2, 0, none⟩) 2 1 [3, 1] [[0, 1]] 1 _ l1 l2 (by decide)) (congrArg (Value.int .i64) (by decide +kernel : firstF [3, 1] [[0, 1]] 1 = 1))
            have Hw3 := Lib.hid (hk2.trans (l3.mono hk2.size))
            have t1 : ((q : Int) == (q : Int)) = true := by simp
            have t2 : decide (al ≤ (q : Int)) = true := by simpa using h2
            have t3 : decide ((q : Int) ≤ fs) = true := by simpa using h1
            have h3 := H3.out
            have Hcf := Lib.hid hcf
            have Hq := Lib.hid hq
            have Hd := Lib.hid hd
            have H3 := Lib.hid h3
            clear hcf hq hd h3
            clear l1 l2 l3 hk2 Hk hltj
            by_cases k0 : 0 ≤ dd
            · have k1 : decide (0 ≤ dd) = true := by simpa using k0
              go_wp2_with fail
              refine Hcf.out.mono ?_
              rintro e wz ⟨rfl, hbz⟩
              have Hwz := Lib.hid (Hw3.out.trans (hbz.mono Hw3.out.size))
              clear hbz
              go_wp2
              go_ret
              exact ⟨rfl, Hwz.out⟩
            · have k1 : decide (0 ≤ dd) = false := by simpa using k0
              by_cases k2 : al < (q : Int)
              · have k3 : decide (al < (q : Int)) = true := by simpa using k2
                go_wp2_with fail
                refine Hcf.out.mono ?_
                rintro e wz ⟨rfl, hbz⟩
                have Hwz := Lib.hid (Hw3.out.trans (hbz.mono Hw3.out.size))
                clear hbz
                go_wp2
                go_ret
                exact ⟨rfl, Hwz.out⟩
              · have k3 : decide (al < (q : Int)) = false := by simpa using k2
                have k4 : (1 : Int) < (q : Int) := by have := H3.out; omega
                have k5 : decide ((1 : Int) < (q : Int)) = true := by simpa using k4
                by_cases k6 : al < fs
                · have k7 : decide (al < fs) = true := by simpa using k6
                  go_wp2_with fail
                  refine Hcf.out.mono ?_
                  rintro e wz ⟨rfl, hbz⟩
                  have Hwz := Lib.hid (Hw3.out.trans (hbz.mono Hw3.out.size))
                  clear hbz
                  go_wp2
                  go_ret
                  exact ⟨rfl, Hwz.out⟩
                · have k7 : decide (al < fs) = false := by simpa using k6
                  go_wp2_with fail
                  refine Hcf.out.mono ?_
                  rintro e wz ⟨rfl, hbz⟩
                  have Hwz := Lib.hid (Hw3.out.trans (hbz.mono Hw3.out.size))
                  clear hbz
                  go_wp2
                  go_ret
                  exact ⟨rfl, Hwz.out⟩

end Go.Proofs.Yteigcfcabmoghaa
