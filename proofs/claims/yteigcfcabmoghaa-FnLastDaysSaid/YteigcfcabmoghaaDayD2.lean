/- Contracts: a drawn last day (reference's l15Draw, MakeDay). -/
import Derived.Test.YteigcfcabmoghaaDayD
import Derived.Test.YteigcfcabmoghaaNeedI
import Derived.Deep.RegionHeld3
namespace Go.Proofs.Yteigcfcabmoghaa
set_option linter.unusedSimpArgs false
set_option linter.unusedVariables false
open Go.RowKit

theorem keepV {wc W w' : World} {B go a b : Nat} {x y : Value} (hgo : go < B) (h : W.cell? ⟨go, a, none⟩ = some x ∧ W.cell? ⟨go, b, none⟩ = some y ∧ Below B wc W) (hb : Below B W w') : w'.cell? ⟨go, a, none⟩ = some x ∧ w'.cell? ⟨go, b, none⟩ = some y ∧ Below B wc w' :=
  ⟨by rw [hb.cell (p := ⟨go, a, none⟩) hgo]; exact h.1, by rw [hb.cell (p := ⟨go, b, none⟩) hgo]; exact h.2.1, h.2.2.trans hb⟩
theorem keepA {wc W : World} {B go a b : Nat} {x y : Value} (hgo : go < B) (hB : B ≤ wc.heap.size) (o : Obj) (h : W.cell? ⟨go, a, none⟩ = some x ∧ W.cell? ⟨go, b, none⟩ = some y ∧ Below B wc W) : (W.alloc o).cell? ⟨go, a, none⟩ = some x ∧ (W.alloc o).cell? ⟨go, b, none⟩ = some y ∧ Below B wc (W.alloc o) :=
  keepV hgo h ((Below.refl B W).alloc (Nat.le_trans hB h.2.2.size) o)
theorem keepW {wc W : World} {B go a b : Nat} {x y : Value} (h : W.cell? ⟨go, a, none⟩ = some x ∧ W.cell? ⟨go, b, none⟩ = some y ∧ Below B wc W) : W.drew.cell? ⟨go, a, none⟩ = some x ∧ W.drew.cell? ⟨go, b, none⟩ = some y ∧ Below B wc W.drew :=
  ⟨h.1, h.2.1, h.2.2.drew⟩

set_option maxRecDepth 100000 in
set_option maxHeartbeats 4000000 in
theorem l15Draw_c (g : Nat) (A : Option Addr) (m c : Nat) (w0 w : World) (hc : Cur w g A m c) (hb : Byt w0 A m) (hA : ∀ a, A = some a → 0 < m → a.block < g) (hm : m ≤ 1048576) (hg : w0.heap.size ≤ g) (hgz : g < w.heap.size) (hd : Below w0.heap.size w0 w) :
    Calls Try.prog 59 #[.pointer (some ⟨g, 0, none⟩)] w (ADay w0) := by
  have hby := l01Below_c g A m c 6 w hc (hb.keep (keep_of_below hd)) hA hm (by decide) (by decide)
  have Hb := Lib.hid hb
  have HA := Lib.hid hA
  have Hby := Lib.hid hby
  have Hd := Lib.hid hd
  clear hb hA hby hd
  clear hc
  go_enter Try.func59, Try.ntmps59
  go_wp2_with fail
  refine (Hby.out).mono ?_
  rintro e v0 ⟨x, rfl, hx0, hx1, hc, ho⟩
  obtain ⟨x, rfl⟩ := Int.eq_ofNat_of_zero_le hx0
  have hd0 := only_new ho Hd.out hg
  have hz0 : g < v0.heap.size := Nat.lt_of_lt_of_le hgz ho.size
  have hx3 : x ≤ 5 := by omega
  obtain ⟨n, hn⟩ : ∃ n, 2 + x = n := ⟨_, rfl⟩
  have hn2 : 2 ≤ n := by omega
  have hn8 : n ≤ 8 := by omega
  have wn : IntKind.i64.wrap (2 + (x : Int)) = (n : Int) := by rw [IntWalk.i64_in _ (by omega)]; omega
  have hba : Below v0.heap.size v0 (v0.alloc (.cells #[] 3)) := (Below.refl _ _).alloc (Nat.le_refl _) _
  have hoe := out_empty 3 v0.heap.size v0 (Nat.le_refl _)
  have Hc1 := Lib.hid (hc.below (hba.mono hz0))
  have Hd1 := Lib.hid (hd0.trans (hba.mono hd0.size))
  have hz1 : g < (v0.alloc (.cells #[] 3)).heap.size := Nat.lt_of_lt_of_le hz0 hba.size
  have Hoe := Lib.hid hoe
  clear hoe
  clear hba hc ho hd0 Hd Hby hx0 hx1 hgz
  go_wp2
  go_loopw [6, 5] (fun i s wr => ∃ (k c1 : Nat) (A1 : Option Addr) (ws : List Int), k ≤ n ∧ i = .int .i64 k ∧ s = .slice A1 k c1 ∧ ws.length = k ∧ (∀ x ∈ ws, 20 ≤ x ∧ x ≤ 27) ∧ Own 3 v0.heap.size wr.heap.size wr A1 c1 (ws.map (.int .i64)) ∧ Cur wr g A m c ∧ Below w0.heap.size w0 wr ∧ g < wr.heap.size ∧ v0.heap.size ≤ wr.heap.size) (fun i _ _ => n - (intOf i).toNat)
  case atStart => exact ⟨0, 0, _, [], Nat.zero_le _, rfl, rfl, rfl, fun x hx => by simp at hx, Hoe.out, Hc1.out, Hd1.out, hz1, by simp⟩
  case round =>
    clear Hoe Hc1 Hd1 hz1
    obtain ⟨k, c1, A1, ws, hk, rfl, rfl, hwl, hwb, ho, hc, hd, hzr, hvr⟩ := hrel
    have Hwb := Lib.hid hwb
    have Ho := Lib.hid ho
    have Hc := Lib.hid hc
    have Hd := Lib.hid hd
    clear hwb ho hc hd
    by_cases hlt : k < n
    · have hlti : (k : Int) < (n : Int) := by omega
      have hby := l01Below_c g A m c 8 wr Hc.out (Hb.out.keep (keep_of_below Hd.out)) HA.out hm (by decide) (by decide)
      have Hby := Lib.hid hby
      clear hby
      go_wp2_with fail
      refine Hby.out.mono ?_
      rintro e w2 ⟨y, rfl, hy0, hy1, hc2, ho2⟩
      have wy : IntKind.i64.wrap (20 + y) = 20 + y := IntWalk.i64_in _ (by omega)
      have hz2 := ho2.size
      have Hd2 := Lib.hid (only_new ho2 Hd.out hg)
      have Ho2 := Lib.hid ((Ho.out.only ho2 (Nat.le_refl _) (.inr (by omega))).wide (Nat.le_refl _) hz2)
      have hul : k = (ws.map (Value.int .i64)).length := by simp [hwl]
      have hvz : v0.heap.size ≤ w2.heap.size := by omega
      have Hc2 := Lib.hid hc2
      have Hul := Lib.hid hul
      clear hc2 hul
      clear ho2 Hby
      go_wp2_with (at_builtin; refine wpList_app1 rfl (.tmp 19) (.tmp 23) 22 rfl 3 (.int .i64 0) 8 Try.underlying22 info_int rfl v0.heap.size A1 c1 (ws.map (.int .i64)) ?_ ?_ (.int .i64 (20 + y)) rfl ?_ ?_ k ?_ ?_ ?_ ?_; exact Ho2.out; exact hvz; (rw [← Hul.out]; omega); decide; exact Hul.out; rfl; rfl; intro A3 c3 w3 ho3 hb3 hg3 hz3)
      have Hc3 := Lib.hid (Hc2.out.below (hb3.mono hz0))
      have Hd3 := Lib.hid (Hd2.out.trans (hb3.mono (by have := Hd.out.size; omega)))
      have hz4 : g < w3.heap.size := by omega
      have Ho3 := Lib.hid ho3
      clear ho3
      clear hb3 hg3
      go_wp2
      go_roundw
      case rel => exact ⟨k + 1, c3, A3, ws ++ [20 + y], by omega, by go_num, rfl, by simp [hwl], fun x hx => by
          rcases List.mem_append.1 hx with hx | hx
          · exact Hwb.out x hx
          · rw [List.mem_singleton] at hx; omega, by simpa using Ho3.out, Hc3.out, Hd3.out, hz4, by omega⟩
      case measure => simp [intOf]; omega
    · obtain rfl : k = n := by omega
      have hor := l02Order_c g A m c k w0 wr Hc.out Hb.out HA.out hm hg hzr Hd.out (by omega)
      have Hor := Lib.hid hor
      clear hor
      clear hlt
      go_wp2_with fail
      refine Hor.out.mono ?_
      rintro e v1 ⟨go, oc, l, rfl, hll, hnd, hlb, hol, hcl, hyl⟩
      have hvs := hyl.size
      have hzv : g < v1.heap.size := by omega
      have Hd1 := Lib.hid (only_new hyl Hd.out hg)
      have Ho1 := Lib.hid (Ho.out.only hyl (Nat.le_refl _) (.inr (by omega)))
      have hba : Below v1.heap.size v1 (v1.alloc (.cells #[] 22)) := (Below.refl _ _).alloc (Nat.le_refl _) _
      have Hre := Lib.hid (out_empty 22 v1.heap.size v1 (Nat.le_refl _))
      have Hc2 := Lib.hid (hcl.below (hba.mono hzv))
      have Hd2 := Lib.hid (Hd1.out.trans (hba.mono Hd1.out.size))
      have Ho2 := Lib.hid (Ho1.out.below (hba.mono hvs))
      have Hl2 := Lib.hid (hol.below hba)
      have hz2 : g < (v1.alloc (.cells #[] 22)).heap.size := Nat.lt_of_lt_of_le hzv hba.size
      have hz2' : v1.heap.size ≤ (v1.alloc (.cells #[] 22)).heap.size := hba.size
      obtain ⟨z1, hzw⟩ : ∃ z, wr.heap.size = z := ⟨_, rfl⟩
      rw [hzw] at Ho2 Hl2 hvs hzr
      have hgz1 : g < z1 := hzr
      clear hba hcl hyl hol Ho1 Hd1 Hor Ho Hc Hd hzr hvr hzw
      have Hnd := Lib.hid hnd
      have Hlb := Lib.hid hlb
      clear hnd hlb
      go_wp2
      go_loopw [9, 8] (fun i s wr => ∃ (a c2 : Nat) (A2 : Option Addr) (L : List (List Int)), a ≤ k + 1 ∧ i = .int .i64 a ∧ s = .slice A2 L.length c2 ∧ L.length ≤ 3 ∧ PairsOf l a L ∧ Own2 3 22 v1.heap.size wr.heap.size wr A2 c2 L ∧ Own 3 v0.heap.size z1 wr A1 c1 (ws.map (.int .i64)) ∧ Own 3 z1 v1.heap.size wr (some ⟨go, 0, none⟩) oc (l.map (.int .i64)) ∧ Cur wr g A m c ∧ Below w0.heap.size w0 wr ∧ g < wr.heap.size ∧ v1.heap.size ≤ wr.heap.size) (fun i _ _ => k + 2 - (intOf i).toNat)
      case atStart => exact ⟨0, 0, _, [], Nat.zero_le _, rfl, rfl, Nat.zero_le _, ⟨by simp, fun g hg => by simp at hg⟩, ⟨[], Hre.out, Inner.nil ..⟩, Ho2.out, Hl2.out, Hc2.out, Hd2.out, hz2, hz2'⟩
      case round =>
        clear Hre Hc2 Hd2 Ho2 Hl2 hz2 hz2'
        obtain ⟨a, c2, A2, L, ha, rfl, rfl, hf, hP, hL, ho, hl, hc, hd, hz, hv⟩ := hrel
        have HP := Lib.hid hP
        have HL := Lib.hid hL
        have Ho := Lib.hid ho
        have Hl := Lib.hid hl
        have Hc := Lib.hid hc
        have Hd := Lib.hid hd
        clear hP hL ho hl hc hd
        obtain ⟨b, hb1⟩ : ∃ b, a + 1 = b := ⟨_, rfl⟩
        have wa1 : IntKind.i64.wrap ((a : Int) + 1) = (b : Int) := by rw [IntWalk.i64_in _ (by omega)]; omega
        have wa2 : IntKind.i64.wrap ((a : Int) + 2) = (a : Int) + 2 := IntWalk.i64_in _ (by omega)
        by_cases hlt : a + 1 < k
        · have hlti : (b : Int) < (k : Int) := by omega
          by_cases hf3 : L.length < 3
          · have hf3i : (L.length : Int) < 3 := by omega
            have hby := l01Below_c g A m c 4 wr Hc.out (Hb.out.keep (keep_of_below Hd.out)) HA.out hm (by decide) (by decide)
            have Hby := Lib.hid hby
            clear hby
            go_wp2_with fail
            refine Hby.out.mono ?_
            rintro e w2 ⟨y, rfl, hy0, hy1, hc2, ho2⟩
            have hz2 := ho2.size
            have hd2 := only_new ho2 Hd.out hg
            have hw2 := Ho.out.only ho2 (by omega) (.inr (by omega))
            have hl2 := Hl.out.only ho2 hv (.inr (by omega))
            have hL2 := (HL.out.only ho2 (Nat.le_refl _) (.inr (by omega))).wide (Nat.le_refl _) hz2
            have hz3 : g < w2.heap.size := by omega
            have hv3 : v1.heap.size ≤ w2.heap.size := by omega
            clear ho2 Hby
            by_cases hy : 0 < y
            · obtain ⟨u, hu⟩ := some_of (l := l) (k := a) (by omega)
              obtain ⟨v, hvv⟩ := some_of (l := l) (k := a + 1) (by omega)
              obtain ⟨ga, ea, _, hgo6, hca, _⟩ := ownr hl2 hu
              obtain rfl : go = ga := by injection ea with e; injection e
              obtain ⟨gb, eb, _, _, hcb, _⟩ := ownr hl2 hvv
              obtain rfl : go = gb := by injection eb with e; injection e
              have hali : (a : Int) < (k : Int) := by omega
              rw [hb1] at hcb
              have HP2 := Lib.hid (HP.out.add hu hvv)
              have hez : (w2.drew.alloc (.cells #[.int .i64 u, .int .i64 v] 3)).heap.size = w2.heap.size + 1 := by simp
              have hbw : Below w2.heap.size w2 (w2.drew.alloc (.cells #[.int .i64 u, .int .i64 v] 3)) := (below_drew w2).alloc (Nat.le_refl w2.heap.size) _
              have hrow : Own 3 w2.heap.size (w2.heap.size + 1) (w2.drew.alloc (.cells #[.int .i64 u, .int .i64 v] 3)) (some ⟨w2.heap.size, 0, none⟩) 2 [.int .i64 u, .int .i64 v] := own_new2 3 w2.drew (.int .i64 u) (.int .i64 v)
              rw [← hez] at hrow
              have HL5 := Lib.hid (hL2.below hbw)
              have Hw5 := Lib.hid (hw2.below (hbw.mono (by omega)))
              have Hl5 := Lib.hid (hl2.below (hbw.mono hv3))
              have Hc5 := Lib.hid (hc2.below (hbw.mono hz3))
              have Hd5 := Lib.hid (hd2.trans (hbw.mono hd2.size))
              have hbd := (below_drew w2).mono hv3
              have hsa := fun (o : Obj) => keepA hgo6 hv3 o (W := w2.drew) ⟨hca, hcb, hbd⟩
              have Hrow := Lib.hid hrow
              clear hrow
              have Hb1 := Lib.hid hb1
              clear ea eb hu hvv hbw hc2 hd2 hw2 hl2 hL2 hb1
              go_wp2
              (go_region_held3 (fun W' => W'.cell? ⟨go, a, none⟩ = some (.int .i64 u) ∧ W'.cell? ⟨go, b, none⟩ = some (.int .i64 v) ∧ Below v1.heap.size w2 W')
                (first | assumption | exact ⟨hca, hcb, hbd⟩ | exact keepA hgo6 hv3 _ (by assumption) | exact keepW (by assumption))
                (first
                  | (refine step_app2g rfl (.tmp 43) (.tmp 54) 23 rfl 3 22 Try.underlying23 info_ints info_rows_ne (w2.drew.alloc (.cells #[.int .i64 u, .int .i64 v] 3)) v1.heap.size w2.heap.size A2 c2 L (some ⟨w2.heap.size, 0, none⟩) 2 [u, v] HL5.out Hrow.out hv3 (by rw [hez]; exact Nat.le_succ _) (by omega) L.length 2 rfl rfl rfl (congrArg (fun n => Value.slice (some ⟨n, 0, none⟩) 1 1) hez.symm) ?_; intro A6 c6 w6 ho6 hb6 hz6 hst6; (have hs6 := keepV hgo6 (hsa _) hb6); (have Hw6 := Lib.hid (hst6 _ _ _ _ _ _ info_rows_ne (by rw [hez]; omega) Hw5.out)); (have Hl6 := Lib.hid (hst6 _ _ _ _ _ _ info_rows_ne (by rw [hez]; omega) Hl5.out)); (have Hb6 := Lib.hid hb6); (have Ho6 := Lib.hid ho6); (rw [hez] at hz6); (have hkx : w2.heap.size ≤ w6.heap.size := by omega); clear hst6 hb6 ho6 hz6)))
              all_goals
                have Hc6 := Lib.hid (Hc5.out.below (Hb6.out.mono (by omega)))
                have Hd6 := Lib.hid (Hd5.out.trans (Hb6.out.mono (by omega)))
                clear hsa
                go_wp2
                go_roundw
                case rel => exact ⟨a + 2, c6, some ⟨A6, 0, none⟩, L ++ [[u, v]], by omega, by go_num, by simp, by simp; omega, HP2.out, Ho6.out, Hw6.out, Hl6.out, Hc6.out, Hd6.out, by omega, by omega⟩
                case measure => simp [intOf]; omega
            · have Hc2 := Lib.hid hc2
              have Hd2 := Lib.hid hd2
              have Hw2 := Lib.hid hw2
              have Hl2 := Lib.hid hl2
              have HL2 := Lib.hid hL2
              clear hc2 hd2 hw2 hl2 hL2
              have HP2 := Lib.hid (HP.out.skip (by omega))
              go_wp2
              go_roundw
              case rel => exact ⟨a + 2, c2, A2, L, by omega, by go_num, rfl, hf, HP2.out, HL2.out, Hw2.out, Hl2.out, Hc2.out, Hd2.out, hz3, hv3⟩
              case measure => simp [intOf]; omega
          · have hf3i : ¬ (L.length : Int) < 3 := by omega
            have hL' := HL.out
            go_wp2
            go_ret2
            exact ⟨A1, A2, c1, c2, ws, L, by rw [hwl]; rfl, day_done hn2 hn8 hwl Hwb.out Hnd.out Hlb.out hf HP.out, Ho.out.ints, hL'.rows, hL'.le.1, hL'.le.2, Hd.out⟩
        · have hlti : ¬ (b : Int) < (k : Int) := by omega
          have hL' := HL.out
          go_wp2
          go_ret2
          exact ⟨A1, A2, c1, c2, ws, L, by rw [hwl]; rfl, day_done hn2 hn8 hwl Hwb.out Hnd.out Hlb.out hf HP.out, Ho.out.ints, hL'.rows, hL'.le.1, hL'.le.2, Hd.out⟩

set_option maxHeartbeats 1000000 in
theorem makeDay_c (A : Option Addr) (m c n : Nat) (w : World) (hb : Byt w A m) (hA : ∀ a, A = some a → 0 < m → a.block < w.heap.size) (hm : m ≤ 1048576) (hn : n ≤ 1000) :
    Calls Try.prog 39 #[.slice A m c, .int .i64 (n : Int)] w (ADay w) := by
  have hnc := l32New_c A m c n w hb hA hm hn
  have Hb := Lib.hid hb
  have HA := Lib.hid hA
  have Hnc := Lib.hid hnc
  clear hb hA hnc
  go_enter Try.func39, Try.ntmps39
  go_wp2_with fail
  refine (Hnc.out).mono ?_
  rintro e w1 ⟨g, rfl, hg1, hg2, hc, hb1⟩
  have hdr := l15Draw_c g A m c w w1 hc Hb.out (fun a e h0 => Nat.lt_of_lt_of_le (HA.out a e h0) hg1) hm hg1 hg2 hb1
  have Hdr := Lib.hid hdr
  clear hdr
  go_wp2_with fail
  refine (Hdr.out).mono ?_
  rintro e w2 ⟨A2, B2, c2, d2, pts, games, rfl, hr, h1, h2, h3, h4, h5⟩
  have Hr := Lib.hid hr
  have H1 := Lib.hid h1
  have H2 := Lib.hid h2
  have H3 := Lib.hid h3
  have H4 := Lib.hid h4
  have H5 := Lib.hid h5
  clear hr h1 h2 h3 h4 h5
  go_wp2
  go_ret2
  exact ⟨A2, B2, c2, d2, pts, games, rfl, Hr.out, H1.out, H2.out, H3.out, H4.out, H5.out⟩
end Go.Proofs.Yteigcfcabmoghaa
