/- The walk of the law on elimination (FnElimination): it returns true for every code. -/
import Derived.Test.YtdgmmgaihgpccaaElimP
import Derived.Test.YtdgmmgaihgpccaaRaceD
import Derived.Test.YtdgmmgaihgpccaaCode
import Derived.Test.YtdgmmgaihgpccaaPast
import Derived.Test.YtdgmmgaihgpccaaAfter
namespace Go.Proofs.Ytdgmmgaihgpccaa
open Go.ChangeShapes Go.WideShapes Go.ChangeAt Go.RowKit
set_option linter.unusedVariables false
set_option linter.unusedSimpArgs false

set_option maxHeartbeats 1000000 in
theorem lbits_c (f s : Nat) (w : World) (hs : s < 2 ^ f) (hf : f ≤ 60) :
    Calls Try.prog 41 #[.int .i64 s] w (Quiet w (.int .i64 ((bitsF f 0 s).length : Nat))) := by
  generalize hR : (bitsF f 0 s).length = R
  have HR := Lib.hid hR
  clear hR
  have hs60 : s < 9223372036854775808 := Nat.lt_of_lt_of_le hs (Nat.le_trans (Nat.pow_le_pow_right (by decide) hf) (by decide))
  go_enter Try.func41, Try.ntmps41
  go_wp2
  go_loopw [0, 3] (fun n k wr => ∃ (g a x : Nat), n = .int .i64 x ∧ k = .int .i64 a ∧ a + (bitsF g 0 x).length = R ∧ x < 2 ^ g ∧ a + g ≤ 60 ∧ x < 9223372036854775808 ∧ Dr w wr) (fun n _ _ => (intOf n).toNat)
  case atStart => exact ⟨f, 0, s, rfl, rfl, by simpa using HR.out, hs, by omega, hs60, Dr.refl _⟩
  case round =>
    obtain ⟨g, a, x, rfl, rfl, hS, hx, hag, hx60, hd⟩ := hrel
    have HS := Lib.hid hS
    have Hx := Lib.hid hx
    have Hd := Lib.hid hd
    clear hS hx hd
    by_cases h0 : 0 < x
    · have hg : ∃ g', g = g' + 1 := by
        cases g with
        | zero => have := Hx.out; simp at this; omega
        | succ g' => exact ⟨g', rfl⟩
      obtain ⟨g, rfl⟩ := hg
      have e2 : bits .and .i64 (x : Int) 1 = ((x % 2 : Nat) : Int) := and_one x hx60
      have hm : x % 2 < 2 := Nat.mod_lt _ (by decide)
      have hx1 : x / 2 < 2 ^ g := by have := Hx.out; rw [Nat.pow_succ] at this; omega
      have HS1 : Hid ((a + x % 2) + (bitsF g 0 (x / 2)).length = R) := Lib.hid (by
        have := HS.out
        rw [bitsF] at this
        rw [bitsF_len_eq g 0 (0 + 1)]
        by_cases h1 : x % 2 = 1
        · rw [if_pos h1, List.length_cons] at this; omega
        · rw [if_neg h1] at this; omega)
      have Hx1 := Lib.hid hx1
      clear hx1
      go_wp2
      go_roundw
      case rel => exact ⟨g, a + x % 2, x / 2, by go_num, by go_num, HS1.out, Hx1.out, by omega, by omega, Hd.out⟩
      case measure => simp [intOf]; omega
    · obtain rfl : x = 0 := by omega
      have HS1 : Hid (a = R) := Lib.hid (by have := HS.out; rwa [bitsF_zero] at this)
      go_wp2
      go_ret
      exact ⟨ret_int (by rw [HS1.out]), Hd.out⟩
/-- Ints come back, so many. -/
def GivesL (w : World) (xs : List Int) (n : Nat) (e : Ending) (w' : World) : Prop := ∃ A c, e = .returned (.slice A n c) ∧ Ints w' A xs ∧ Below w.heap.size w w'
theorem GivesI_len {w : World} {xs : List Int} {n : Nat} {P : Program} {f : FuncId} {args : Array Value} (h : xs.length = n) (k : Calls P f args w (GivesI 3 w xs)) : Calls P f args w (GivesL w xs n) :=
  k.mono fun e w' ⟨A, c, he, ho, hb⟩ => ⟨A, c, by rw [← h]; exact he, ho.ints, hb⟩
theorem lit_race (W : World) (x y p q r : Int) :
    Ints (((W.alloc (.cells #[.int .i64 x, .int .i64 y] 3)).alloc (.cells #[.int .i64 p, .int .i64 q, .int .i64 r] 3)).alloc (.cells #[.slice (some ⟨W.heap.size + 1, 0, none⟩) 3 3] 22)) (some ⟨W.heap.size, 0, none⟩) [x, y] ∧
    Rows (((W.alloc (.cells #[.int .i64 x, .int .i64 y] 3)).alloc (.cells #[.int .i64 p, .int .i64 q, .int .i64 r] 3)).alloc (.cells #[.slice (some ⟨W.heap.size + 1, 0, none⟩) 3 3] 22)) (some ⟨W.heap.size + 2, 0, none⟩) [[p, q, r]] ∧
    Below W.heap.size W (((W.alloc (.cells #[.int .i64 x, .int .i64 y] 3)).alloc (.cells #[.int .i64 p, .int .i64 q, .int .i64 r] 3)).alloc (.cells #[.slice (some ⟨W.heap.size + 1, 0, none⟩) 3 3] 22)) := by
  have b1 : Below W.heap.size W (W.alloc (.cells #[.int .i64 x, .int .i64 y] 3)) := (Below.refl _ _).alloc (Nat.le_refl _) _
  have z1 : (W.alloc (.cells #[.int .i64 x, .int .i64 y] 3)).heap.size = W.heap.size + 1 := by simp
  have o1 : Own 3 W.heap.size (W.heap.size + 1) (W.alloc (.cells #[.int .i64 x, .int .i64 y] 3)) (some ⟨W.heap.size, 0, none⟩) 2 ([x, y].map (.int .i64)) := own_new2 3 W (.int .i64 x) (.int .i64 y)
  generalize W.alloc (.cells #[.int .i64 x, .int .i64 y] 3) = W1 at b1 z1 o1 ⊢
  have b2 : Below W1.heap.size W1 (W1.alloc (.cells #[.int .i64 p, .int .i64 q, .int .i64 r] 3)) := (Below.refl _ _).alloc (Nat.le_refl _) _
  have z2 : (W1.alloc (.cells #[.int .i64 p, .int .i64 q, .int .i64 r] 3)).heap.size = W.heap.size + 2 := by simp [z1]
  have o2 : Own 3 W1.heap.size (W1.heap.size + 1) (W1.alloc (.cells #[.int .i64 p, .int .i64 q, .int .i64 r] 3)) (some ⟨W1.heap.size, 0, none⟩) 3 ([p, q, r].map (.int .i64)) := own_new3 3 W1 (.int .i64 p) (.int .i64 q) (.int .i64 r)
  rw [z1] at o2
  generalize W1.alloc (.cells #[.int .i64 p, .int .i64 q, .int .i64 r] 3) = W2 at b2 z2 o2 ⊢
  have b3 : Below W2.heap.size W2 (W2.alloc (.cells #[.slice (some ⟨W.heap.size + 1, 0, none⟩) 3 3] 22)) := (Below.refl _ _).alloc (Nat.le_refl _) _
  have hc : (W2.alloc (.cells #[.slice (some ⟨W.heap.size + 1, 0, none⟩) 3 3] 22)).cell? ⟨W2.heap.size, 0, none⟩ = some (.slice (some ⟨W.heap.size + 1, 0, none⟩) 3 3) := by simp
  rw [z2] at hc
  generalize W2.alloc (.cells #[.slice (some ⟨W.heap.size + 1, 0, none⟩) 3 3] 22) = W3 at b3 hc ⊢
  refine ⟨(o1.ints.keep (keep_of_below b2)).keep (keep_of_below b3), ?_, (b1.trans (b2.mono b1.size)).trans (b3.mono (Nat.le_trans b1.size b2.size))⟩
  intro k xs hk
  have hk0 : k = 0 := by have := lt_of hk; simpa using this
  subst hk0
  simp at hk
  subst hk
  exact ⟨_, some ⟨W.heap.size + 1, 0, none⟩, 3, rfl, Nat.le_refl _, by unfold maxLen; omega, by rw [Addr.add_zero']; exact hc, o2.ints.keep (keep_of_below b3)⟩

set_option maxRecDepth 100000 in
set_option maxHeartbeats 8000000 in
theorem fnElimination_walk (w : World) (A : Option Addr) (m c : Nat) (hb : Byt w A m) (hA : ∀ a, A = some a → 0 < m → a.block < w.heap.size) (hm : m ≤ maxLen) :
    Calls Try.prog 12 #[.slice A m c] w fun e w' => e = .returned (.bool true) ∧ Below w.heap.size w w' := by
  by_cases hbig : 1048576 < m
  · have hmi : (1048576 : Int) < (m : Int) := by omega
    clear hb hA hm hmi
    go_enter Try.func12, Try.ntmps12
    go_wp2
    go_ret
    exact ⟨rfl, Below.refl _ _⟩
  · have hmi : ¬ (1048576 : Int) < (m : Int) := by omega
    have hmr : Calls Try.prog 40 #[.slice A m c, .int .i64 0] w (ARace w) := makeRace_c A m c 0 w hb hA (by omega) (by omega)
    have Hmr := Lib.hid hmr
    clear hmr
    clear hb hA hm hbig
    go_enter Try.func12, Try.ntmps12
    go_wp2_with fail
    refine (Hmr.out).mono ?_
    rintro e w1 ⟨AA, BB, c1, d1, wins, left, rfl, hr, ha, hbb, hcap, hd1, hb1⟩
    have hrace := race_of hr
    have htwo := hrace.two
    have hsix := hrace.six
    have hfew := hrace.games.few
    have hm1 : wins.length ≤ 1048576 := by omega
    have hm2 : left.length ≤ 1048576 := by omega
    obtain ⟨S, hS⟩ : ∃ S, stillF wins left = S := ⟨_, rfl⟩
    obtain ⟨N, hN⟩ : ∃ N, 2 ^ wins.length = N := ⟨_, rfl⟩
    obtain ⟨s1, s2, s3⟩ := el_still hr
    rw [hS] at s1 s2 s3
    rw [hN] at s2
    have hN64 : N ≤ 64 := by rw [← hN]; exact Nat.pow_le_pow_right (by decide) hsix
    have e0 : wrap64 ((2 : Int) ^ wins.length) = (N : Int) := pow_wrap hN (by omega)
    have g1 : ¬ (S : Int) ≤ 0 := by omega
    have g2 : ¬ (N : Int) ≤ (S : Int) := by omega
    have g3 : ((S : Int) == 0) = false := by simp; omega
    obtain ⟨aa, rfl⟩ : ∃ aa, AA = some aa := by
      obtain ⟨v, hv⟩ := some_of (l := wins) (k := 0) (by omega)
      obtain ⟨aa, e, _⟩ := ha 0 v hv
      exact ⟨aa, e⟩
    have HA := Lib.hid ha
    have HB := Lib.hid hbb
    have hsi := gives_v (iStillIn_c (some aa) BB c1 d1 wins left w1 ha hbb hm1 hm2 hcap) (congrArg (fun x : Nat => Value.int .i64 (x : Int)) hS)
    have Hr := Lib.hid hr
    have Hrace := Lib.hid hrace
    have Hb1 := Lib.hid hb1
    have S3 := Lib.hid s3
    have HN := Lib.hid hN
    have Hsi := Lib.hid hsi
    have HS := Lib.hid hS
    clear hr hrace hb1 s3 hN hsi hS
    clear ha hbb
    go_wp2_with fail
    refine (Hsi.out).mono ?_
    rintro e w2 ⟨rfl, hb2⟩
    have Hk2 := Lib.hid hb2
    clear hb2 Hsi
    go_wp2_with fail
    refine (gives_v (iRaceOk_c (some aa) BB c1 d1 wins left w2 (HA.out.keep (keep_of_below Hk2.out)) (HB.out.keep (keep_of_below Hk2.out)) hm1 hm2 hcap) (congrArg Value.bool Hr.out)).mono ?_
    rintro e w3 ⟨rfl, hb3⟩
    have Hk3 := Lib.hid (Hk2.out.trans (hb3.mono Hk2.out.size))
    clear hb3 Hk2
    go_wp2
    have g4 : decide (N ≤ S) = false := by rw [decide_eq_false_iff_not]; omega
    rw [e0, g4]
    clear g1 g2 g4
    go_loopw [7] (fun i wr => ∃ a : Nat, a ≤ wins.length ∧ i = .int .i64 a ∧ Below w1.heap.size w1 wr) (fun i _ => wins.length - (intOf i).toNat)
    case atStart => exact ⟨0, Nat.zero_le _, rfl, Hk3.out⟩
    case round =>
      clear Hk3
      obtain ⟨a, ha, rfl, hk⟩ := hrel
      have Hk := Lib.hid hk
      clear hk
      by_cases hlt : a < wins.length
      · have hlti : (a : Int) < (wins.length : Int) := by omega
        obtain ⟨v, hv⟩ := some_of hlt
        obtain ⟨v1, v2⟩ := Hrace.out.win v (List.mem_of_getElem? hv)
        have hvD : wins.getD a 0 = v := by rw [List.getD_eq_getElem?_getD, hv]; rfl
        obtain ⟨b1, b2, b3, b4, b5⟩ := el_best Hr.out hlt
        have b6 := bestF_eq Hr.out hlt
        obtain ⟨m1, m2, m3⟩ := el_magic Hr.out hlt
        have m4 := el_magic_le Hr.out hlt
        obtain ⟨best, hbest⟩ : ∃ x, bestF wins left a = x := ⟨_, rfl⟩
        obtain ⟨gl, hgl⟩ : ∃ x, leftOf (a : Int) 0 left = x := ⟨_, rfl⟩
        obtain ⟨mm, hmm⟩ : ∃ x, magicF wins left a = x := ⟨_, rfl⟩
        rw [hbest, hgl, hvD] at b6
        rw [hbest] at b1 b2
        rw [hgl] at b3 b4 b5
        rw [hmm, hvD] at m2
        rw [hmm] at m1 m3 m4
        have wb : IntKind.i64.wrap (v + gl) = best := by rw [b6]; exact IntWalk.i64_in _ (by omega)
        have wm : IntKind.i64.wrap (v + mm) = v + mm := IntWalk.i64_in _ (by omega)
        have nb : (best != best) = false := by simp
        have nm : ¬ mm < 0 := by omega
        obtain ⟨y, hy⟩ : ∃ y, S / 2 ^ a = y := ⟨_, rfl⟩
        have hy64 : y < 64 := by rw [← hy]; exact Nat.lt_of_le_of_lt (Nat.div_le_self _ _) (by omega)
        have y1 : (S : Int) / 2 ^ a = (y : Int) := by rw [← hy]; exact shr_nat S a
        have y2 : bits .and .i64 (y : Int) 1 = ((y % 2 : Nat) : Int) := and_one y (by omega)
        have hyb := S3.out a hlt
        have hpo := fun (W : World) (h : Keep w1 W) => iProofOut_c (some aa) BB c1 d1 wins left a W (HA.out.keep h) (HB.out.keep h) hm1 hm2 hcap
        have hbw := fun (W : World) (h : Keep w1 W) => gives_v (IBestWins_c (some aa) BB c1 d1 wins left a W (HA.out.keep h) (HB.out.keep h) hm1 hm2 hcap) (congrArg (Value.int .i64) hbest)
        have hgc := fun (W : World) (h : Keep w1 W) => gives_v (IGamesLeft_c (some aa) BB c1 d1 wins left a W (HA.out.keep h) (HB.out.keep h) hm1 hm2 hcap) (congrArg (Value.int .i64) b3)
        have hmc := fun (W : World) (h : Keep w1 W) => gives_v (IMagicNumber_c (some aa) BB c1 d1 wins left a W (HA.out.keep h) (HB.out.keep h) hm1 hm2 hcap) (congrArg (Value.int .i64) hmm)
        have hkc := fun (k : Nat) (W : World) (h : Keep w1 W) => IBestWins_c (some aa) BB c1 d1 wins left k W (HA.out.keep h) (HB.out.keep h) hm1 hm2 hcap
        have hch := fun (W : World) (h : Keep w1 W) => iChanceFor_c (some aa) BB c1 d1 wins left a W (HA.out.keep h) (HB.out.keep h) hm1 hm2 hcap hd1
        have hio := fun (W : World) (h : Keep w1 W) => iIsOut_c (some aa) BB c1 d1 wins left a W (HA.out.keep h) (HB.out.keep h) hm1 hm2 hcap
        have hcf := canF_eq Hr.out hlt
        clear b3 b4 b5 b6 hmm hgl hvD
        have Hbw := Lib.hid hbw
        have Hgc := Lib.hid hgc
        have Hmc := Lib.hid hmc
        have Hkc := Lib.hid hkc
        have M2 := Lib.hid m2
        clear hbw hgc hmc hkc m2
        cases hout : outB wins left a
        · -- still in
          have hyb1 : y % 2 = 1 := by rw [hout] at hyb; rw [← hy]; exact (bit_iff S a).2 hyb
          have y3 : ((y : Int) % 2 == 1) = true := by simp; omega
          have hp0 : proofF wins left a = 0 := by simp only [outB, decide_eq_false_iff_not] at hout; omega
          obtain ⟨f1, f2, f3⟩ := el_after Hr.out hlt hout
          rw [hout] at hcf
          obtain ⟨R, hR⟩ : ∃ R, chanceF wins left a = R := ⟨_, rfl⟩
          rw [hR] at hch
          simp only [hcf, Bool.not_false] at hch
          simp only [hout] at hio
          simp only [hp0] at hpo
          have Hy := Lib.hid hy
          have Hch := Lib.hid hch
          have Hio := Lib.hid hio
          have Hpo := Lib.hid hpo
          have Hv := Lib.hid hv
          have M3 := Lib.hid m3
          clear hy hch hio hpo hv m3
          rw [hR] at f1 f2 f3
          obtain ⟨E, hE⟩ : ∃ E, afterF wins left R = E := ⟨_, rfl⟩
          rw [hE] at f1 f2 f3
          rw [hbest] at f2 f3
          have Hout := Lib.hid hout
          have Hyb := Lib.hid hyb
          have Hyb1 := Lib.hid hyb1
          have Hp0 := Lib.hid hp0
          have Hcf := Lib.hid hcf
          have HR := Lib.hid hR
          have Hbest := Lib.hid hbest
          have F2 := Lib.hid f2
          have F3 := Lib.hid f3
          clear hout hyb hyb1 hp0 hcf hR hbest f2 f3
          go_wp2_with fail
          refine (Hch.out _ (keep_of_below Hk.out)).mono ?_
          rintro e w4 ⟨RA, rc, rfl, hor, hb4⟩
          have Hk4 := Lib.hid (Hk.out.trans (hb4.mono Hk.out.size))
          have Hr4 := Lib.hid hor.rows
          clear hb4 hor Hk
          go_wp2_with fail
          refine (Hpo.out _ (keep_of_below Hk4.out)).mono ?_
          rintro e w5 ⟨rfl, hb5⟩
          have Hk5 := Lib.hid (Hk4.out.trans (hb5.mono Hk4.out.size))
          have Hr5 := Lib.hid (Hr4.out.keep (keep_of_below hb5))
          clear hb5 Hk4 Hr4
          go_wp2_with fail
          refine (Hbw.out _ (keep_of_below Hk5.out)).mono ?_
          rintro e w6 ⟨rfl, hb6⟩
          have Hk6 := Lib.hid (Hk5.out.trans (hb6.mono Hk5.out.size))
          have Hr6 := Lib.hid (Hr5.out.keep (keep_of_below hb6))
          clear hb6 Hk5 Hr5
          go_wp2_with fail
          refine (Hio.out _ (keep_of_below Hk6.out)).mono ?_
          rintro e w7 ⟨rfl, hb7⟩
          have Hk7 := Lib.hid (Hk6.out.trans (hb7.mono Hk6.out.size))
          have Hr7 := Lib.hid (Hr6.out.keep (keep_of_below hb7))
          clear hb7 Hk6 Hr6
          obtain ⟨ae, ee, hcv⟩ := HA.out.keep (keep_of_below Hk7.out) a v Hv.out
          obtain rfl : aa = ae := by injection ee
          have cc0 : ∀ x : Past w7, x.now.cell? (aa.add a) = some (.int .i64 v) := Past.cell hcv
          clear ee hcv
          go_wp2
          refine wp_region_past (by kernel_rfl) (by kernel_rfl) ?_
          repeat (go_big_quiet_step ((go_at_call 21; exact past_gives (Hgc.out _ ((keep_of_below Hk7.out).trans (Past.keep _))))))
          refine wpQuiet_nil ?_
          intro wx hwx
          obtain ⟨⟨wy, hbx⟩, hw⟩ := hwx
          change wx = wy at hw
          subst hw
          have Hk8 := Lib.hid (Hk7.out.trans (hbx.mono Hk7.out.size))
          have Hr8 := Lib.hid (Hr7.out.keep (keep_of_below hbx))
          clear hbx cc0 Hr7 Hk7
          have hag := GivesI_len f1 (by rw [← hE]; exact iAfterGames_c (some aa) BB RA c1 d1 rc wins left R wx (HA.out.keep (keep_of_below Hk8.out)) (HB.out.keep (keep_of_below Hk8.out)) Hr8.out hm1 hm2 hcap)
          have Hag := Lib.hid hag
          have HE := Lib.hid hE
          clear hag hE
          go_wp2_with fail
          refine (Hag.out).mono ?_
          rintro e w9 ⟨EA, ec, rfl, hie, hb9⟩
          have Hk9 := Lib.hid (Hk8.out.trans (hb9.mono Hk8.out.size))
          have hEa : E[a]? = some best := by
            have h1 := List.getElem?_eq_getElem (l := E) (i := a) (by omega)
            have h2 := F2.out
            rw [List.getD_eq_getElem?_getD, h1] at h2
            rw [h1]; exact congrArg some h2
          obtain ⟨ea, rfl, hca⟩ := hie a best hEa
          have Hie := Lib.hid hie
          clear hb9 Hk8 Hr8 hie hEa
          go_wp2
          clear hca
          go_loopw [124] (fun i wr => ∃ j : Nat, j ≤ wins.length ∧ i = .int .i64 j ∧ Dr w9 wr) (fun i _ => wins.length - (intOf i).toNat)
          case atStart => exact ⟨0, Nat.zero_le _, rfl, Dr.refl _⟩
          case round =>
            obtain ⟨j, hj, rfl, hd⟩ := hrel
            have Hd := Lib.hid hd
            clear hd
            by_cases hltj : j < wins.length
            · have hltji : (j : Int) < (wins.length : Int) := by omega
              obtain ⟨x, hx⟩ := some_of (l := E) (k := j) (by omega)
              have hxb := F3.out x (List.mem_of_getElem? hx)
              have hxn : ¬ best < x := by omega
              obtain ⟨ae, ee, hcx⟩ := Hie.out.keep Hd.out.keep j x hx
              obtain rfl : ea = ae := by injection ee
              clear hx ee
              go_wp2
              go_roundw
              case rel => exact ⟨j + 1, by omega, by go_num, Hd.out⟩
              case measure => simp [intOf]; omega
            · obtain rfl : j = wins.length := by omega
              have Hkt := Lib.hid (Hk9.out.trans (Hd.out.below w1.heap.size))
              clear hltj hj Hk9 Hie
              go_wp2_with fail
              refine (Hmc.out _ (keep_of_below Hkt.out)).mono ?_
              rintro e wt1 ⟨rfl, hbt1⟩
              have Hkt1 := Lib.hid (Hkt.out.trans (hbt1.mono Hkt.out.size))
              clear hbt1 Hkt
              go_wp2
              go_loopw [22] (fun i wr => ∃ k : Nat, k ≤ wins.length ∧ i = .int .i64 k ∧ Below w1.heap.size w1 wr) (fun i _ => wins.length - (intOf i).toNat)
              case atStart => exact ⟨0, Nat.zero_le _, rfl, Hkt1.out⟩
              case round =>
                clear Hkt1
                obtain ⟨k, hkn, rfl, hkk⟩ := hrel
                have Hkk := Lib.hid hkk
                clear hkk
                by_cases hltk : k < wins.length
                · have hltki : (k : Int) < (wins.length : Int) := by omega
                  by_cases hka : k = a
                  · have ek : ((k : Int) != (a : Int)) = false := by simp [hka]
                    have Hka := Lib.hid hka
                    clear hka
                    go_wp2
                    refine wp_region_past (by kernel_rfl) (by kernel_rfl) ?_
                    repeat (go_big_quiet_step ((fail)))
                    refine wpQuiet_nil ?_
                    intro wx hwx
                    obtain ⟨⟨wy, hbx⟩, hw⟩ := hwx
                    change wx = wy at hw
                    subst hw
                    have Hbx := Lib.hid (Hkk.out.trans (hbx.mono Hkk.out.size))
                    clear hbx
                    go_wp2
                    go_roundw
                    case rel => exact ⟨k + 1, by omega, by go_num, Hbx.out⟩
                    case measure => simp [intOf]; omega
                  · have ek : ((k : Int) != (a : Int)) = true := by simp; omega
                    have hbk := M2.out k hltk hka
                    have hkcc := fun (W : World) (h : Keep w1 W) => Hkc.out k W h
                    obtain ⟨bk, hbk2⟩ : ∃ x, bestF wins left k = x := ⟨_, rfl⟩
                    rw [hbk2] at hbk
                    simp only [hbk2] at hkcc
                    have hnb : ¬ v + mm < bk := by omega
                    obtain ⟨ae, ee, hcv⟩ := HA.out.keep (keep_of_below Hkk.out) a v Hv.out
                    obtain rfl : aa = ae := by injection ee
                    have cc0 : ∀ x : Past wr, x.now.cell? (aa.add a) = some (.int .i64 v) := Past.cell hcv
                    have Hka := Lib.hid hka
                    have Hkcc := Lib.hid hkcc
                    clear hka hkcc
                    clear hbk hbk2 ee hcv
                    go_wp2
                    refine wp_region_past (by kernel_rfl) (by kernel_rfl) ?_
                    repeat (go_big_quiet_step ((go_at_call 23; exact past_gives (Hkcc.out _ ((keep_of_below Hkk.out).trans (Past.keep _))))))
                    refine wpQuiet_nil ?_
                    intro wx hwx
                    obtain ⟨⟨wy, hbx⟩, hw⟩ := hwx
                    change wx = wy at hw
                    subst hw
                    have Hbx := Lib.hid (Hkk.out.trans (hbx.mono Hkk.out.size))
                    clear hbx cc0
                    go_wp2
                    go_roundw
                    case rel => exact ⟨k + 1, by omega, by go_num, Hbx.out⟩
                    case measure => simp [intOf]; omega
                · obtain rfl : k = wins.length := by omega
                  by_cases hm0 : mm = 0
                  · have em : (mm == 0) = true := by simp [hm0]
                    by_cases hl0 : 0 < left.length
                    · have hl1 : (0 : Int) < (left.length : Int) := by omega
                      have Hm0 := Lib.hid hm0
                      clear hm0
                      go_wp2
                      go_roundw
                      case rel => exact ⟨a + 1, by omega, by go_num, Hkk.out⟩
                      case measure => simp [intOf]; omega
                    · have hl1 : ¬ (0 : Int) < (left.length : Int) := by omega
                      have Hm0 := Lib.hid hm0
                      clear hm0
                      go_wp2
                      go_roundw
                      case rel => exact ⟨a + 1, by omega, by go_num, Hkk.out⟩
                      case measure => simp [intOf]; omega
                  · have em : (mm == 0) = false := by simpa using hm0
                    have Hm0 := Lib.hid hm0
                    clear hm0
                    go_wp2
                    go_roundw
                    case rel => exact ⟨a + 1, by omega, by go_num, Hkk.out⟩
                    case measure => simp [intOf]; omega
        · -- out
          have hyb1 : y % 2 ≠ 1 := by rw [hout] at hyb; rw [← hy]; intro h; have := (bit_iff S a).1 h; rw [hyb] at this; cases this
          have y3 : ((y : Int) % 2 == 1) = false := by simp; omega
          obtain ⟨p1, p2, p3, p4⟩ := el_proof Hr.out hlt hout
          obtain ⟨s, hs⟩ : ∃ s, proofF wins left a = s := ⟨_, rfl⟩
          rw [hs] at p1 p2 p3 p4
          have Hp2 := Lib.hid p2
          rw [HN.out] at p2
          rw [hout] at hcf
          obtain ⟨R, hR⟩ : ∃ R, chanceF wins left a = R := ⟨_, rfl⟩
          rw [hR] at hch
          simp only [hcf, Bool.not_true] at hch
          simp only [hout] at hio
          simp only [hs] at hpo
          have Hy := Lib.hid hy
          have Hch := Lib.hid hch
          have Hio := Lib.hid hio
          have Hpo := Lib.hid hpo
          have Hv := Lib.hid hv
          have M3 := Lib.hid m3
          clear hy hch hio hpo hv m3
          have hR0 : R = [] := by rw [← hR, chanceF, if_neg (by rw [hcf]; simp)]
          subst hR0
          rw [hbest] at p4
          have k1 : ((s : Int) != 0) = true := by simp; omega
          have k2 : ¬ (s : Int) ≤ 0 := by omega
          have k3 : ¬ (N : Int) ≤ (s : Int) := by omega
          obtain ⟨q, hq⟩ : ∃ q, s / 2 ^ a = q := ⟨_, rfl⟩
          have hq64 : q < 64 := by rw [← hq]; exact Nat.lt_of_le_of_lt (Nat.div_le_self _ _) (by omega)
          have q1 : (s : Int) / 2 ^ a = (q : Int) := by rw [← hq]; exact shr_nat s a
          have q2 : bits .and .i64 (q : Int) 1 = ((q % 2 : Nat) : Int) := and_one q (by omega)
          have hqb : q % 2 ≠ 1 := by rw [← hq]; intro h; have := (bit_iff s a).1 h; rw [p3] at this; cases this
          have q3 : ((q : Int) % 2 == 1) = false := by simp; omega
          obtain ⟨bl, hbl⟩ : ∃ bl, (bitsF wins.length 0 s).length = bl := ⟨_, rfl⟩
          have hbl6 : bl ≤ 6 := by rw [← hbl]; exact Nat.le_trans (bitsF_len _ _ _) hsix
          have hlb := fun W => lbits_c wins.length s W Hp2.out (by omega)
          rw [hbl] at p4 hlb
          obtain ⟨pb, hpb⟩ : ∃ pb : Int, best * (bl : Int) = pb := ⟨_, rfl⟩
          have hpb0 : 0 ≤ pb := by rw [← hpb]; exact Int.mul_nonneg b1 (by omega)
          have hpb1 : pb ≤ 500 * 6 := by rw [← hpb]; exact Int.mul_le_mul b2 (by omega) (by omega) (by omega)
          have wpb : IntKind.i64.wrap (best * (bl : Int)) = pb := by rw [hpb]; exact IntWalk.i64_in _ (by omega)
          rw [Int.mul_comm, hpb] at p4
          obtain ⟨WW, hWW⟩ : ∃ x, winsIn 0 s wins = x := ⟨_, rfl⟩
          rw [hWW] at p4
          obtain ⟨GG, hGG⟩ : ∃ x, gamesIn s WW left = x := ⟨_, rfl⟩
          rw [hGG] at p4
          have HW0 : Hid (winsIn 0 (s / 2 ^ 0) (wins.drop 0) = WW) := Lib.hid (by simpa using hWW)
          have npb : ¬ GG ≤ pb := by omega
          have Hout := Lib.hid hout
          have Hyb := Lib.hid hyb
          have Hyb1 := Lib.hid hyb1
          have Hcf := Lib.hid hcf
          have HR := Lib.hid hR
          have Hbest := Lib.hid hbest
          have Hs := Lib.hid hs
          have P3 := Lib.hid p3
          have Hq := Lib.hid hq
          have Hqb := Lib.hid hqb
          have Hbl := Lib.hid hbl
          have Hlb := Lib.hid hlb
          have Hpb := Lib.hid hpb
          have HWW := Lib.hid hWW
          have HGG := Lib.hid hGG
          have P4 := Lib.hid p4
          have P2 := Lib.hid p2
          clear hout hyb hyb1 hcf hR hbest hs p3 hq hqb hbl hlb hpb hWW hGG p4 p2
          clear p1
          go_wp2_with fail
          refine (Hch.out _ (keep_of_below Hk.out)).mono ?_
          rintro e w4 ⟨RA, rc, rfl, hor, hb4⟩
          have Hk4 := Lib.hid (Hk.out.trans (hb4.mono Hk.out.size))
          clear hb4 hor Hk
          go_wp2_with fail
          refine (Hpo.out _ (keep_of_below Hk4.out)).mono ?_
          rintro e w5 ⟨rfl, hb5⟩
          have Hk5 := Lib.hid (Hk4.out.trans (hb5.mono Hk4.out.size))
          clear hb5 Hk4
          go_wp2_with fail
          refine (Hbw.out _ (keep_of_below Hk5.out)).mono ?_
          rintro e w6 ⟨rfl, hb6⟩
          have Hk6 := Lib.hid (Hk5.out.trans (hb6.mono Hk5.out.size))
          clear hb6 Hk5
          go_wp2_with fail
          refine (Hio.out _ (keep_of_below Hk6.out)).mono ?_
          rintro e w7 ⟨rfl, hb7⟩
          have Hk7 := Lib.hid (Hk6.out.trans (hb7.mono Hk6.out.size))
          clear hb7 Hk6
          obtain ⟨ae, ee, hcv⟩ := HA.out.keep (keep_of_below Hk7.out) a v Hv.out
          obtain rfl : aa = ae := by injection ee
          have cc0 : ∀ x : Past w7, x.now.cell? (aa.add a) = some (.int .i64 v) := Past.cell hcv
          clear ee hcv
          go_wp2
          refine wp_region_past (by kernel_rfl) (by kernel_rfl) ?_
          repeat (go_big_quiet_step ((go_at_call 21; exact past_gives (Hgc.out _ ((keep_of_below Hk7.out).trans (Past.keep _))))))
          refine wpQuiet_nil ?_
          intro wx hwx
          obtain ⟨⟨wy, hbx⟩, hw⟩ := hwx
          change wx = wy at hw
          subst hw
          have Hk8 := Lib.hid (Hk7.out.trans (hbx.mono Hk7.out.size))
          clear hbx cc0 Hk7
          go_wp2
          go_loopw [149, 16] (fun i t wr => ∃ (j : Nat) (x : Int), j ≤ wins.length ∧ i = .int .i64 j ∧ t = .int .i64 x ∧ 0 ≤ x ∧ x ≤ 1000 * (j : Int) ∧ winsIn x (s / 2 ^ j) (wins.drop j) = WW ∧ Dr wx wr) (fun i _ _ => wins.length - (intOf i).toNat)
          case atStart => exact ⟨0, 0, Nat.zero_le _, rfl, rfl, by omega, by omega, HW0.out, Dr.refl _⟩
          case round =>
            obtain ⟨j, x, hj, rfl, rfl, hx0, hx1, hS, hd⟩ := hrel
            have HS := Lib.hid hS
            have Hd := Lib.hid hd
            clear hS hd
            by_cases hltj : j < wins.length
            · have hltji : (j : Int) < (wins.length : Int) := by omega
              obtain ⟨vv, hvv⟩ := some_of hltj
              obtain ⟨vv0, vv1⟩ := Hrace.out.win vv (List.mem_of_getElem? hvv)
              obtain ⟨ae, ee, hcx⟩ := HA.out.keep ((keep_of_below Hk8.out).trans Hd.out.keep) j vv hvv
              obtain rfl : aa = ae := by injection ee
              obtain ⟨u, hu⟩ : ∃ u, s / 2 ^ j = u := ⟨_, rfl⟩
              have hu64 : u < 64 := by rw [← hu]; exact Nat.lt_of_le_of_lt (Nat.div_le_self _ _) (by have := P2.out; omega)
              have u1 : (s : Int) / 2 ^ j = (u : Int) := by rw [← hu]; exact shr_nat s j
              have u2 : bits .and .i64 (u : Int) 1 = ((u % 2 : Nat) : Int) := and_one u (by omega)
              have wx1 : IntKind.i64.wrap (x + vv) = x + vv := IntWalk.i64_in _ (by omega)
              have HS1 : Hid (winsIn (if u % 2 = 1 then x + vv else x) (s / 2 ^ (j + 1)) (wins.drop (j + 1)) = WW) := Lib.hid (by
                have := HS.out
                rw [drop_of hvv, winsIn, hu] at this
                rw [Nat.pow_succ, ← Nat.div_div_eq_div_mul, hu]; exact this)
              have Hvv := Lib.hid hvv
              have Hu := Lib.hid hu
              clear hvv hu
              clear ee
              by_cases hu1 : u % 2 = 1
              · have u3 : ((u : Int) % 2 == 1) = true := by simp; omega
                have HS2 : Hid (winsIn (x + vv) (s / 2 ^ (j + 1)) (wins.drop (j + 1)) = WW) := Lib.hid (by have := HS1.out; rwa [if_pos hu1] at this)
                have Hu1 := Lib.hid hu1
                clear hu1
                go_wp2
                go_roundw
                case rel => exact ⟨j + 1, x + vv, by omega, by go_num, by go_num, by omega, by omega, HS2.out, Hd.out⟩
                case measure => simp [intOf]; omega
              · have u3 : ((u : Int) % 2 == 1) = false := by simp; omega
                have HS2 : Hid (winsIn x (s / 2 ^ (j + 1)) (wins.drop (j + 1)) = WW) := Lib.hid (by have := HS1.out; rwa [if_neg hu1] at this)
                have Hu1 := Lib.hid hu1
                clear hu1
                go_wp2
                go_roundw
                case rel => exact ⟨j + 1, x, by omega, by go_num, by go_num, by omega, by omega, HS2.out, Hd.out⟩
                case measure => simp [intOf]; omega
            · obtain rfl : j = wins.length := by omega
              have hxW : x = WW := by have := HS.out; rwa [List.drop_length, winsIn] at this
              subst hxW
              have HG0 : Hid (gamesIn s x (left.drop 0) = GG) := Lib.hid (by simpa using HGG.out)
              have hx2 : x ≤ 6000 := by omega
              obtain ⟨wg, hwg⟩ : ∃ wg : World, wg = wr := ⟨_, rfl⟩
              rw [← hwg] at Hd ⊢
              have Hkg := Lib.hid (Hk8.out.trans (Hd.out.below w1.heap.size))
              clear hwg wr hltj hj Hk8 HS Hd HW0
              go_wp2
              go_loopw [165, 16] (fun i t wr => ∃ (j : Nat) (b : Int), j ≤ left.length ∧ i = .int .i64 j ∧ t = .int .i64 b ∧ 0 ≤ b ∧ b ≤ 6000 + 20 * (j : Int) ∧ gamesIn s b (left.drop j) = GG ∧ Dr wg wr) (fun i _ _ => left.length - (intOf i).toNat)
              case atStart => exact ⟨0, x, Nat.zero_le _, rfl, rfl, by omega, by omega, HG0.out, Dr.refl _⟩
              case round =>
                clear HG0
                obtain ⟨j, b, hj, rfl, rfl, hb0', hb1', hS4, hd⟩ := hrel
                have HS4 := Lib.hid hS4
                have Hd := Lib.hid hd
                clear hS4 hd
                by_cases hlt3 : j < left.length
                · have hlt3i : (j : Int) < (left.length : Int) := by omega
                  obtain ⟨g, hx⟩ := some_of hlt3
                  obtain ⟨bd, b', c', rfl, _, _, hca, hia⟩ := HB.out.keep ((keep_of_below Hkg.out).trans Hd.out.keep) j g hx
                  obtain ⟨x', y', z, rfl, hxy, hyn, hz1, hz2⟩ := Hrace.out.games.at_ hx
                  obtain ⟨ad, rfl, h0, h1, h2⟩ := ints3 hia
                  have hca' : wr.cell? (bd.add j) = some (.slice (some ad) 3 c') := hca
                  have wb2 : IntKind.i64.wrap (b + (z : Int)) = b + (z : Int) := IntWalk.i64_in _ (by omega)
                  obtain ⟨u, hu⟩ : ∃ u, s / 2 ^ x' = u := ⟨_, rfl⟩
                  have hu64 : u < 64 := by rw [← hu]; exact Nat.lt_of_le_of_lt (Nat.div_le_self _ _) (by have := P2.out; omega)
                  have f1 : (s : Int) / 2 ^ x' = (u : Int) := by rw [← hu]; exact shr_nat s x'
                  have f2 : bits .and .i64 (u : Int) 1 = ((u % 2 : Nat) : Int) := and_one u (by omega)
                  obtain ⟨vv, hvv⟩ : ∃ v, s / 2 ^ y' = v := ⟨_, rfl⟩
                  have hv64 : vv < 64 := by rw [← hvv]; exact Nat.lt_of_le_of_lt (Nat.div_le_self _ _) (by have := P2.out; omega)
                  have f3 : (s : Int) / 2 ^ y' = (vv : Int) := by rw [← hvv]; exact shr_nat s y'
                  have f4 : bits .and .i64 (vv : Int) 1 = ((vv % 2 : Nat) : Int) := and_one vv (by omega)
                  have HS5 : Hid (gamesIn s (if u % 2 = 1 ∧ vv % 2 = 1 then b + z else b) (left.drop (j + 1)) = GG) := Lib.hid (by
                    have := HS4.out
                    rw [drop_of hx, gamesIn] at this
                    rw [← hu, ← hvv]; exact this)
                  have Hx := Lib.hid hx
                  have Hu := Lib.hid hu
                  have Hvv := Lib.hid hvv
                  clear hx hu hvv
                  clear hia hca
                  by_cases hu1 : u % 2 = 1
                  · have f5 : ((u : Int) % 2 == 1) = true := by simp; omega
                    by_cases hv1 : vv % 2 = 1
                    · have f6 : ((vv : Int) % 2 == 1) = true := by simp; omega
                      have HS6 : Hid (gamesIn s (b + z) (left.drop (j + 1)) = GG) := Lib.hid (by have := HS5.out; rwa [if_pos ⟨hu1, hv1⟩] at this)
                      have Hu1 := Lib.hid hu1
                      have Hv1 := Lib.hid hv1
                      clear hu1 hv1
                      go_wp2
                      go_roundw
                      case rel => exact ⟨j + 1, b + z, by omega, by go_num, by go_num, by omega, by omega, HS6.out, Hd.out⟩
                      case measure => simp [intOf]; omega
                    · have f6 : ((vv : Int) % 2 == 1) = false := by simp; omega
                      have HS6 : Hid (gamesIn s b (left.drop (j + 1)) = GG) := Lib.hid (by have := HS5.out; rwa [if_neg (fun h => hv1 h.2)] at this)
                      have Hu1 := Lib.hid hu1
                      have Hv1 := Lib.hid hv1
                      clear hu1 hv1
                      go_wp2
                      go_roundw
                      case rel => exact ⟨j + 1, b, by omega, by go_num, by go_num, by omega, by omega, HS6.out, Hd.out⟩
                      case measure => simp [intOf]; omega
                  · have f5 : ((u : Int) % 2 == 1) = false := by simp; omega
                    have HS6 : Hid (gamesIn s b (left.drop (j + 1)) = GG) := Lib.hid (by have := HS5.out; rwa [if_neg (fun h => hu1 h.1)] at this)
                    have Hu1 := Lib.hid hu1
                    clear hu1
                    go_wp2
                    go_roundw
                    case rel => exact ⟨j + 1, b, by omega, by go_num, by go_num, by omega, by omega, HS6.out, Hd.out⟩
                    case measure => simp [intOf]; omega
                · obtain rfl : j = left.length := by omega
                  have hbG : b = GG := by have := HS4.out; rwa [List.drop_length, gamesIn] at this
                  subst hbG
                  have Hkw := Lib.hid (Hkg.out.trans (Hd.out.below w1.heap.size))
                  clear hlt3 hj Hkg HS4 Hd
                  go_wp2_with fail
                  refine (Hlb.out _).mono ?_
                  rintro e wl ⟨rfl, hql⟩
                  have Hkt := Lib.hid (Hkw.out.trans (hql.below w1.heap.size))
                  clear hql Hkw
                  go_wp2_with fail
                  refine (Hmc.out _ (keep_of_below Hkt.out)).mono ?_
                  rintro e wt1 ⟨rfl, hbt1⟩
                  have Hkt1 := Lib.hid (Hkt.out.trans (hbt1.mono Hkt.out.size))
                  clear hbt1 Hkt
                  go_wp2
                  go_loopw [22] (fun i wr => ∃ k : Nat, k ≤ wins.length ∧ i = .int .i64 k ∧ Below w1.heap.size w1 wr) (fun i _ => wins.length - (intOf i).toNat)
                  case atStart => exact ⟨0, Nat.zero_le _, rfl, Hkt1.out⟩
                  case round =>
                    clear Hkt1
                    obtain ⟨k, hkn, rfl, hkk⟩ := hrel
                    have Hkk := Lib.hid hkk
                    clear hkk
                    by_cases hltk : k < wins.length
                    · have hltki : (k : Int) < (wins.length : Int) := by omega
                      by_cases hka : k = a
                      · have ek : ((k : Int) != (a : Int)) = false := by simp [hka]
                        have Hka := Lib.hid hka
                        clear hka
                        go_wp2
                        refine wp_region_past (by kernel_rfl) (by kernel_rfl) ?_
                        repeat (go_big_quiet_step ((fail)))
                        refine wpQuiet_nil ?_
                        intro wx hwx
                        obtain ⟨⟨wy, hbx⟩, hw⟩ := hwx
                        change wx = wy at hw
                        subst hw
                        have Hbx := Lib.hid (Hkk.out.trans (hbx.mono Hkk.out.size))
                        clear hbx
                        go_wp2
                        go_roundw
                        case rel => exact ⟨k + 1, by omega, by go_num, Hbx.out⟩
                        case measure => simp [intOf]; omega
                      · have ek : ((k : Int) != (a : Int)) = true := by simp; omega
                        have hbk := M2.out k hltk hka
                        have hkcc := fun (W : World) (h : Keep w1 W) => Hkc.out k W h
                        obtain ⟨bk, hbk2⟩ : ∃ x, bestF wins left k = x := ⟨_, rfl⟩
                        rw [hbk2] at hbk
                        simp only [hbk2] at hkcc
                        have hnb : ¬ v + mm < bk := by omega
                        obtain ⟨ae, ee, hcv⟩ := HA.out.keep (keep_of_below Hkk.out) a v Hv.out
                        obtain rfl : aa = ae := by injection ee
                        have cc0 : ∀ x : Past wr, x.now.cell? (aa.add a) = some (.int .i64 v) := Past.cell hcv
                        have Hka := Lib.hid hka
                        have Hkcc := Lib.hid hkcc
                        clear hka hkcc
                        clear hbk hbk2 ee hcv
                        go_wp2
                        refine wp_region_past (by kernel_rfl) (by kernel_rfl) ?_
                        repeat (go_big_quiet_step ((go_at_call 23; exact past_gives (Hkcc.out _ ((keep_of_below Hkk.out).trans (Past.keep _))))))
                        refine wpQuiet_nil ?_
                        intro wx hwx
                        obtain ⟨⟨wy, hbx⟩, hw⟩ := hwx
                        change wx = wy at hw
                        subst hw
                        have Hbx := Lib.hid (Hkk.out.trans (hbx.mono Hkk.out.size))
                        clear hbx cc0
                        go_wp2
                        go_roundw
                        case rel => exact ⟨k + 1, by omega, by go_num, Hbx.out⟩
                        case measure => simp [intOf]; omega
                    · obtain rfl : k = wins.length := by omega
                      have em : (mm == 0) = false := by
                        rw [beq_eq_false_iff_ne]
                        intro h0
                        have := M3.out h0
                        rw [Hout.out] at this; cases this
                      go_wp2
                      go_roundw
                      case rel => exact ⟨a + 1, by omega, by go_num, Hkk.out⟩
                      case measure => simp [intOf]; omega
      · obtain rfl : a = wins.length := by omega
        obtain ⟨l1, l2, l3⟩ := lit_race wr 10 3 0 1 2
        have hw : Below w.heap.size w wr := Hb1.out.trans (Hk.out.mono Hb1.out.size)
        have hio := gives_v (iIsOut_c (some ⟨wr.heap.size, 0, none⟩) (some ⟨wr.heap.size + 2, 0, none⟩) 2 1 [10, 3] [[0, 1, 2]] 1 _ l1 l2 (by decide) (by decide) (by decide)) (congrArg Value.bool (by decide +kernel : outB [10, 3] [[0, 1, 2]] 1 = true))
        have Hw3 := Lib.hid (hw.trans (l3.mono hw.size))
        have Hio := Lib.hid hio
        clear hio
        clear l1 l2 l3 hw
        go_wp2_with fail
        refine Hio.out.mono ?_
        rintro e w5 ⟨rfl, hb5⟩
        have hw5 := Hw3.out.trans (hb5.mono Hw3.out.size)
        obtain ⟨l1, l2, l3⟩ := lit_race w5 10 3 0 1 9
        have hmg := gives_v (IMagicNumber_c (some ⟨w5.heap.size, 0, none⟩) (some ⟨w5.heap.size + 2, 0, none⟩) 2 1 [10, 3] [[0, 1, 9]] 0 _ l1 l2 (by decide) (by decide) (by decide)) (congrArg (Value.int .i64) (by decide +kernel : magicF [10, 3] [[0, 1, 9]] 0 = 2))
        have Hw6 := Lib.hid (hw5.trans (l3.mono hw5.size))
        have Hmg := Lib.hid hmg
        clear hmg
        clear l1 l2 l3 hw5 hb5 Hw3 Hio
        go_wp2_with fail
        refine Hmg.out.mono ?_
        rintro e w7 ⟨rfl, hb7⟩
        have Hw7 := Lib.hid (Hw6.out.trans (hb7.mono Hw6.out.size))
        clear hb7
        go_wp2
        go_ret
        exact ⟨rfl, Hw7.out⟩

end Go.Proofs.Ytdgmmgaihgpccaa

