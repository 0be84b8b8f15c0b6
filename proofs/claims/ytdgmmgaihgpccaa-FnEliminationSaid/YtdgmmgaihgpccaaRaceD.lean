/- Contracts: a drawn race (reference's l14Draw, MakeRace). -/
import Derived.Test.YtdgmmgaihgpccaaCur2
import Derived.Test.YtdgmmgaihgpccaaRace
import Derived.Test.YtdgmmgaihgpccaaChanceI
namespace Go.Proofs.Ytdgmmgaihgpccaa
set_option linter.unusedSimpArgs false
set_option linter.unusedVariables false
open Go.RowKit

/-- Some race comes back. -/
def ARace (w0 : World) (e : Ending) (w' : World) : Prop := ∃ (A B : Option Addr) (c d : Nat) (wins : List Int) (left : List (List Int)),
  e = .returned (.tuple #[.slice A wins.length c, .slice B left.length d]) ∧ raceOk wins left = true ∧ Ints w' A wins ∧ Rows w' B left ∧ left.length ≤ d ∧ d ≤ maxLen ∧ Below w0.heap.size w0 w'
theorem gamesOk_snoc (n : Int) (g : List Int) : ∀ (L seen : List (List Int)), gamesOk n seen (L ++ [g]) = (gamesOk n seen L && (gameOk n g && !((seen ++ L).any fun h => same h g)))
  | [], seen => by simp [gamesOk]
  | x :: L, seen => by
    rw [List.cons_append, gamesOk, gamesOk, gamesOk_snoc n g L (seen ++ [x])]
    have e : seen ++ [x] ++ L = seen ++ x :: L := by simp
    rw [e, Bool.and_assoc, Bool.and_assoc]
def tri (n : Nat) : Nat → Nat
  | 0 => 0
  | a + 1 => tri n a + (n - 1 - a)
theorem tri_le {n : Nat} (h2 : 2 ≤ n) (h5 : n ≤ 5) : tri n n ≤ 10 := by
  have : n = 2 ∨ n = 3 ∨ n = 4 ∨ n = 5 := by omega
  rcases this with rfl | rfl | rfl | rfl <;> decide
/-- Games so far, before the pair of a and b. -/
structure GamesTo (n a b : Nat) (L : List (List Int)) : Prop where
  ok : gamesOk (n : Int) [] L = true
  lex : ∀ h ∈ L, h.getD 0 0 < (a : Int) ∨ (h.getD 0 0 = (a : Int) ∧ h.getD 1 0 < (b : Int))
  few : L.length ≤ tri n a + (b - a - 1)
theorem GamesTo.nil (n : Nat) : GamesTo n 0 1 [] := ⟨rfl, fun h hm => by simp at hm, Nat.zero_le _⟩
theorem GamesTo.skip {n a b : Nat} {L : List (List Int)} (h : GamesTo n a b L) : GamesTo n a (b + 1) L :=
  ⟨h.ok, fun x hx => by have := h.lex x hx; omega, by have := h.few; omega⟩
theorem GamesTo.next {n a : Nat} {L : List (List Int)} (h : GamesTo n a n L) : GamesTo n (a + 1) (a + 2) L :=
  ⟨h.ok, fun x hx => by have := h.lex x hx; omega, by have := h.few; simp only [tri]; omega⟩
theorem GamesTo.add {n a b : Nat} {y : Int} {L : List (List Int)} (h : GamesTo n a b L) (hab : a < b) (hbn : b < n) (h1 : 1 ≤ y) (h2 : y ≤ 3) : GamesTo n a (b + 1) (L ++ [[(a : Int), (b : Int), y]]) := by
  have e0 : ([(a : Int), (b : Int), y] : List Int).getD 0 0 = a := rfl
  have e1 : ([(a : Int), (b : Int), y] : List Int).getD 1 0 = b := rfl
  have e2 : ([(a : Int), (b : Int), y] : List Int).getD 2 0 = y := rfl
  refine ⟨?_, fun x hx => ?_, ?_⟩
  · rw [gamesOk_snoc, h.ok, Bool.true_and, Bool.and_eq_true]
    refine ⟨?_, ?_⟩
    · simp only [gameOk, e0, e1, e2, inR, Bool.and_eq_true, decide_eq_true_eq]
      refine ⟨⟨⟨rfl, ?_⟩, ?_⟩, ?_⟩ <;> omega
    · rw [List.nil_append, Bool.not_eq_true', List.any_eq_false]
      intro x hx
      have := h.lex x hx
      simp only [same, e0, e1, Bool.and_eq_true, decide_eq_true_eq]
      omega
  · rcases List.mem_append.1 hx with hx | hx
    · have := h.lex x hx; omega
    · rw [List.mem_singleton] at hx
      subst hx
      rw [e0, e1]; omega
  · have := h.few
    rw [List.length_append, List.length_singleton]; omega
theorem race_done {n : Nat} {wins : List Int} {L : List (List Int)} (h2 : 2 ≤ n) (h5 : n ≤ 5) (hl : wins.length = n) (hw : ∀ x ∈ wins, 10 ≤ x ∧ x ≤ 17) (h : GamesTo n n (n + 1) L) : raceOk wins L = true := by
  have ht := tri_le h2 h5
  have hf := h.few
  simp only [raceOk, Bool.and_eq_true, decide_eq_true_eq, List.all_eq_true, hl]
  refine ⟨⟨⟨?_, fun x hx => ?_⟩, ?_⟩, h.ok⟩
  · simp only [inR, Bool.and_eq_true, decide_eq_true_eq]; omega
  · have := hw x hx
    simp only [inR, Bool.and_eq_true, decide_eq_true_eq]; omega
  · omega
theorem own_new3 (T : TypeId) (w : World) (x y z : Value) : Own T w.heap.size (w.heap.size + 1) (w.alloc (.cells #[x, y, z] T)) (some ⟨w.heap.size, 0, none⟩) 3 [x, y, z] := own3 T w x y z

set_option maxRecDepth 100000 in
set_option maxHeartbeats 4000000 in
theorem l14Draw_c (g : Nat) (A : Option Addr) (m c : Nat) (w0 w : World) (hc : Cur w g A m c) (hb : Byt w0 A m) (hA : ∀ a, A = some a → 0 < m → a.block < g) (hm : m ≤ 1048576) (hg : w0.heap.size ≤ g) (hgz : g < w.heap.size) (hd : Below w0.heap.size w0 w) :
    Calls Try.prog 56 #[.pointer (some ⟨g, 0, none⟩)] w (ARace w0) := by
  have hby := l01Below_c g A m c 4 w hc (hb.keep (keep_of_below hd)) hA hm (by decide) (by decide)
  have Hb := Lib.hid hb
  have HA := Lib.hid hA
  have Hby := Lib.hid hby
  have Hd := Lib.hid hd
  clear hb hA hby hd
  clear hc
  go_enter Try.func56, Try.ntmps56
  go_wp2_with fail
  refine (Hby.out).mono ?_
  rintro e v0 ⟨x, rfl, hx0, hx1, hc, ho⟩
  obtain ⟨x, rfl⟩ := Int.eq_ofNat_of_zero_le hx0
  have hd0 := only_new ho Hd.out hg
  have hz0 : g < v0.heap.size := Nat.lt_of_lt_of_le hgz ho.size
  have hx3 : x ≤ 3 := by omega
  obtain ⟨n, hn⟩ : ∃ n, 2 + x = n := ⟨_, rfl⟩
  have hn2 : 2 ≤ n := by omega
  have hn5 : n ≤ 5 := by omega
  have wn : IntKind.i64.wrap (2 + (x : Int)) = (n : Int) := by rw [IntWalk.i64_in _ (by omega)]; omega
  have hba : Below v0.heap.size v0 (v0.alloc (.cells #[] 3)) := (Below.refl _ _).alloc (Nat.le_refl _) _
  have hoe := out_empty 3 v0.heap.size v0 (Nat.le_refl _)
  have Hc1 := Lib.hid (hc.below (hba.mono hz0))
  have Hd1 := Lib.hid (hd0.trans (hba.mono hd0.size))
  have hz1 : g < (v0.alloc (.cells #[] 3)).heap.size := Nat.lt_of_lt_of_le hz0 hba.size
  have Hoe := Lib.hid hoe
  clear hoe
  clear hba hc ho hd0 Hd Hby hx0 hx1 hgz
  go_wp2
  go_loopw [6, 5] (fun i s wr => ∃ (k c1 : Nat) (A1 : Option Addr) (ws : List Int), k ≤ n ∧ i = .int .i64 k ∧ s = .slice A1 k c1 ∧ ws.length = k ∧ (∀ x ∈ ws, 10 ≤ x ∧ x ≤ 17) ∧ Own 3 v0.heap.size wr.heap.size wr A1 c1 (ws.map (.int .i64)) ∧ Cur wr g A m c ∧ Below w0.heap.size w0 wr ∧ g < wr.heap.size ∧ v0.heap.size ≤ wr.heap.size) (fun i _ _ => n - (intOf i).toNat)
  case atStart => exact ⟨0, 0, _, [], Nat.zero_le _, rfl, rfl, rfl, fun x hx => by simp at hx, Hoe.out, Hc1.out, Hd1.out, hz1, by simp⟩
  case round =>
    clear Hoe Hc1 Hd1 hz1
    obtain ⟨k, c1, A1, ws, hk, rfl, rfl, hwl, hwb, ho, hc, hd, hzr, hvr⟩ := hrel
    have Hwb := Lib.hid hwb
    have Ho := Lib.hid ho
    have Hc := Lib.hid hc
    have Hd := Lib.hid hd
    clear hwb ho hc hd
    by_cases hlt : k < n
    · have hlti : (k : Int) < (n : Int) := by omega
      have hby := l01Below_c g A m c 8 wr Hc.out (Hb.out.keep (keep_of_below Hd.out)) HA.out hm (by decide) (by decide)
      have Hby := Lib.hid hby
      clear hby
      go_wp2_with fail
      refine Hby.out.mono ?_
      rintro e w2 ⟨y, rfl, hy0, hy1, hc2, ho2⟩
      have wy : IntKind.i64.wrap (10 + y) = 10 + y := IntWalk.i64_in _ (by omega)
      have hz2 := ho2.size
      have Hd2 := Lib.hid (only_new ho2 Hd.out hg)
      have Ho2 := Lib.hid ((Ho.out.only ho2 (Nat.le_refl _) (.inr (by omega))).wide (Nat.le_refl _) hz2)
      have hul : k = (ws.map (Value.int .i64)).length := by simp [hwl]
      have hvz : v0.heap.size ≤ w2.heap.size := by omega
      have Hc2 := Lib.hid hc2
      have Hul := Lib.hid hul
      clear hc2 hul
      clear ho2 Hby
      go_wp2_with (at_builtin; refine wpList_app1 rfl (.tmp 19) (.tmp 23) 22 rfl 3 (.int .i64 0) 8 Try.underlying22 info_int rfl v0.heap.size A1 c1 (ws.map (.int .i64)) ?_ ?_ (.int .i64 (10 + y)) rfl ?_ ?_ k ?_ ?_ ?_ ?_; exact Ho2.out; exact hvz; (rw [← Hul.out]; omega); decide; exact Hul.out; rfl; rfl; intro A3 c3 w3 ho3 hb3 hg3 hz3)
      have Hc3 := Lib.hid (Hc2.out.below (hb3.mono hz0))
      have Hd3 := Lib.hid (Hd2.out.trans (hb3.mono (by have := Hd.out.size; omega)))
      have hz4 : g < w3.heap.size := by omega
      have Ho3 := Lib.hid ho3
      clear ho3
      clear hb3 hg3
      go_wp2
      go_roundw
      case rel => exact ⟨k + 1, c3, A3, ws ++ [10 + y], by omega, by go_num, rfl, by simp [hwl], fun x hx => by
          rcases List.mem_append.1 hx with hx | hx
          · exact Hwb.out x hx
          · rw [List.mem_singleton] at hx; omega, by simpa using Ho3.out, Hc3.out, Hd3.out, hz4, by omega⟩
      case measure => simp [intOf]; omega
    · obtain rfl : k = n := by omega
      obtain ⟨v1, hv1⟩ : ∃ v1 : World, v1 = wr := ⟨_, rfl⟩
      rw [← hv1] at Ho Hc Hd hzr hvr ⊢
      clear hv1 wr hlt
      have hba : Below v1.heap.size v1 (v1.alloc (.cells #[] 22)) := (Below.refl _ _).alloc (Nat.le_refl _) _
      have Hre := Lib.hid (out_empty 22 v1.heap.size v1 (Nat.le_refl _))
      have Hc1 := Lib.hid (Hc.out.below (hba.mono hzr))
      have Hd1 := Lib.hid (Hd.out.trans (hba.mono Hd.out.size))
      have Ho1 := Lib.hid (Ho.out.below hba)
      have hz1 : g < (v1.alloc (.cells #[] 22)).heap.size := Nat.lt_of_lt_of_le hzr hba.size
      have hz1' : v1.heap.size ≤ (v1.alloc (.cells #[] 22)).heap.size := hba.size
      clear hba Ho Hc Hd
      go_wp2
      go_loopw [8, 7] (fun i s wr => ∃ (a c2 : Nat) (A2 : Option Addr) (L : List (List Int)), a ≤ k ∧ i = .int .i64 a ∧ s = .slice A2 L.length c2 ∧ GamesTo k a (a + 1) L ∧ Own2 3 22 v1.heap.size wr.heap.size wr A2 c2 L ∧ Own 3 v0.heap.size v1.heap.size wr A1 c1 (ws.map (.int .i64)) ∧ Cur wr g A m c ∧ Below w0.heap.size w0 wr ∧ g < wr.heap.size ∧ v1.heap.size ≤ wr.heap.size) (fun i _ _ => k - (intOf i).toNat)
      case atStart => exact ⟨0, 0, _, [], Nat.zero_le _, rfl, rfl, GamesTo.nil k, ⟨[], Hre.out, Inner.nil ..⟩, Ho1.out, Hc1.out, Hd1.out, hz1, hz1'⟩
      case round =>
        clear Hre Hc1 Hd1 Ho1 hz1 hz1'
        obtain ⟨a, c2, A2, L, ha, rfl, rfl, hG, hL, ho, hc, hd, hz, hv⟩ := hrel
        have HG := Lib.hid hG
        have HL := Lib.hid hL
        have Ho := Lib.hid ho
        have Hc := Lib.hid hc
        have Hd := Lib.hid hd
        clear hG hL ho hc hd
        by_cases hlt : a < k
        · have hlti : (a : Int) < (k : Int) := by omega
          have wa : IntKind.i64.wrap ((a : Int) + 1) = (a : Int) + 1 := IntWalk.i64_in _ (by omega)
          go_wp2
          go_loopw [9, 7] (fun i s wr => ∃ (b c2 : Nat) (A2 : Option Addr) (L : List (List Int)), a < b ∧ b ≤ k ∧ i = .int .i64 b ∧ s = .slice A2 L.length c2 ∧ GamesTo k a b L ∧ Own2 3 22 v1.heap.size wr.heap.size wr A2 c2 L ∧ Own 3 v0.heap.size v1.heap.size wr A1 c1 (ws.map (.int .i64)) ∧ Cur wr g A m c ∧ Below w0.heap.size w0 wr ∧ g < wr.heap.size ∧ v1.heap.size ≤ wr.heap.size) (fun i _ _ => k - (intOf i).toNat)
          case atStart => exact ⟨a + 1, c2, A2, L, by omega, by omega, by go_num, rfl, HG.out, HL.out, Ho.out, Hc.out, Hd.out, hz, hv⟩
          case round =>
            clear HG HL Ho Hc Hd hz hv
            obtain ⟨b, c2, A2, L, hab, hbk, rfl, rfl, hG, hL, ho, hc, hd, hz, hv⟩ := hrel
            have hfew : L.length ≤ 1000 := by
              have h1 := hG.few
              have h2 : tri k a ≤ 100 := by
                have : k = 2 ∨ k = 3 ∨ k = 4 ∨ k = 5 := by omega
                have ha4 : a = 0 ∨ a = 1 ∨ a = 2 ∨ a = 3 ∨ a = 4 := by omega
                rcases this with rfl | rfl | rfl | rfl <;> rcases ha4 with rfl | rfl | rfl | rfl | rfl <;> decide
              omega
            have HG := Lib.hid hG
            have HL := Lib.hid hL
            have Ho := Lib.hid ho
            have Hc := Lib.hid hc
            have Hd := Lib.hid hd
            clear hG hL ho hc hd
            by_cases hlt2 : b < k
            · have hlti2 : (b : Int) < (k : Int) := by omega
              have hon := l01Once_c g A m c 2 wr Hc.out (Hb.out.keep (keep_of_below Hd.out)) HA.out hm (by decide) (by decide)
              have Hon := Lib.hid hon
              clear hon
              go_wp2_with fail
              refine Hon.out.mono ?_
              rintro e w2 ⟨t, rfl, hc2, ho2⟩
              have hz2 := ho2.size
              have Hd2 := Lib.hid (only_new ho2 Hd.out hg)
              have Hw2 := Lib.hid (Ho.out.only ho2 hv (.inr (by omega)))
              have HL2 := Lib.hid ((HL.out.only ho2 (Nat.le_refl _) (.inr (by omega))).wide (Nat.le_refl _) hz2)
              have hz3 : g < w2.heap.size := by omega
              have hv3 : v1.heap.size ≤ w2.heap.size := by omega
              have Hc2 := Lib.hid hc2
              clear hc2
              clear ho2 Hon
              cases t
              · go_wp2
                go_roundw
                case rel => exact ⟨b + 1, c2, A2, L, by omega, by omega, by go_num, rfl, HG.out.skip, HL2.out, Hw2.out, Hc2.out, Hd2.out, hz3, hv3⟩
                case measure => simp [intOf]; omega
              · have hby := l01Below_c g A m c 3 w2 Hc2.out (Hb.out.keep (keep_of_below Hd2.out)) HA.out hm (by decide) (by decide)
                have Hby := Lib.hid hby
                clear hby
                go_wp2_with fail
                refine Hby.out.mono ?_
                rintro e w4 ⟨y, rfl, hy0, hy1, hc4, ho4⟩
                have wy : IntKind.i64.wrap (1 + y) = 1 + y := IntWalk.i64_in _ (by omega)
                have hz4 := ho4.size
                have hd4 := only_new ho4 Hd2.out hg
                have hw4 := Hw2.out.only ho4 hv3 (.inr (by omega))
                have hL4 := (HL2.out.only ho4 (Nat.le_refl _) (.inr (by omega))).wide (Nat.le_refl _) hz4
                have hz5 : g < w4.heap.size := by omega
                have hv5 : v1.heap.size ≤ w4.heap.size := by omega
                have hbw : Below w4.heap.size w4 (w4.alloc (.cells #[.int .i64 (a : Int), .int .i64 (b : Int), .int .i64 (1 + y)] 3)) := (Below.refl _ _).alloc (Nat.le_refl _) _
                have hez : (w4.alloc (.cells #[.int .i64 (a : Int), .int .i64 (b : Int), .int .i64 (1 + y)] 3)).heap.size = w4.heap.size + 1 := by simp
                have hrow := own_new3 3 w4 (.int .i64 (a : Int)) (.int .i64 (b : Int)) (.int .i64 (1 + y))
                have HL5 := Lib.hid (hL4.below hbw)
                have Hw5 := Lib.hid (hw4.below (hbw.mono hv5))
                have Hc5 := Lib.hid (hc4.below (hbw.mono hz5))
                have Hd5 := Lib.hid (hd4.trans (hbw.mono hd4.size))
                have HG5 := Lib.hid (HG.out.add hab hlt2 (y := 1 + y) (by omega) (by omega))
                have Hrow := Lib.hid hrow
                clear hrow
                clear hbw hc4 ho4 hd4 hw4 hL4 Hby
                go_wp2_with (at_builtin; refine wpList_app2g rfl (.tmp 40) (.tmp 47) 23 rfl 3 22 Try.underlying23 info_ints info_rows_ne v1.heap.size w4.heap.size A2 c2 L (some ⟨w4.heap.size, 0, none⟩) 3 [(a : Int), (b : Int), 1 + y] ?_ ?_ ?_ ?_ ?_ L.length 3 ?_ ?_ ?_ ?_ ?_; exact HL5.out; (rw [hez]; exact Hrow.out); exact hv5; (rw [hez]; exact Nat.le_succ _); omega; rfl; rfl; rfl; exact congrArg (fun n => Value.slice (some ⟨n, 0, none⟩) 1 1) hez.symm; intro A6 c6 w6 ho6 hb6 hz6 hst6)
                have hz7 : w4.heap.size ≤ w6.heap.size := by rw [hez] at hz6; omega
                have Hw6 := Lib.hid (hst6 _ _ _ _ _ _ info_rows_ne (by rw [hez]; omega) Hw5.out)
                have Hc6 := Lib.hid (Hc5.out.below (hb6.mono (by omega)))
                have Hd6 := Lib.hid (Hd5.out.trans (hb6.mono (by omega)))
                have Ho6 := Lib.hid ho6
                clear ho6
                clear hst6 hb6 hz6
                go_wp2
                go_roundw
                case rel => exact ⟨b + 1, c6, A6, L ++ [[(a : Int), (b : Int), 1 + y]], by omega, by omega, by go_num, by simp, HG5.out, Ho6.out, Hw6.out, Hc6.out, Hd6.out, by omega, by omega⟩
                case measure => simp [intOf]; omega
            · obtain rfl : b = k := by omega
              go_wp2
              go_roundw
              case rel => exact ⟨a + 1, c2, A2, L, by omega, by go_num, rfl, HG.out.next, HL.out, Ho.out, Hc.out, Hd.out, hz, hv⟩
              case measure => simp [intOf]; omega
        · obtain rfl : a = k := by omega
          have hL' := HL.out
          go_wp2
          go_ret2
          exact ⟨A1, A2, c1, c2, ws, L, by rw [hwl]; rfl, race_done hn2 hn5 hwl Hwb.out HG.out, Ho.out.ints, hL'.rows, hL'.le.1, hL'.le.2, Hd.out⟩

set_option maxHeartbeats 1000000 in
theorem makeRace_c (A : Option Addr) (m c n : Nat) (w : World) (hb : Byt w A m) (hA : ∀ a, A = some a → 0 < m → a.block < w.heap.size) (hm : m ≤ 1048576) (hn : n ≤ 1000) :
    Calls Try.prog 40 #[.slice A m c, .int .i64 (n : Int)] w (ARace w) := by
  have hnc := l32New_c A m c n w hb hA hm hn
  have Hb := Lib.hid hb
  have HA := Lib.hid hA
  have Hnc := Lib.hid hnc
  clear hb hA hnc
  go_enter Try.func40, Try.ntmps40
  go_wp2_with fail
  refine (Hnc.out).mono ?_
  rintro e w1 ⟨g, rfl, hg1, hg2, hc, hb1⟩
  have hdr := l14Draw_c g A m c w w1 hc Hb.out (fun a e h0 => Nat.lt_of_lt_of_le (HA.out a e h0) hg1) hm hg1 hg2 hb1
  have Hdr := Lib.hid hdr
  clear hdr
  go_wp2_with fail
  refine (Hdr.out).mono ?_
  rintro e w2 ⟨A2, B2, c2, d2, wins, left, rfl, hr, h1, h2, h3, h4, h5⟩
  have Hr := Lib.hid hr
  have H1 := Lib.hid h1
  have H2 := Lib.hid h2
  have H3 := Lib.hid h3
  have H4 := Lib.hid h4
  have H5 := Lib.hid h5
  clear hr h1 h2 h3 h4 h5
  go_wp2
  go_ret2
  exact ⟨A2, B2, c2, d2, wins, left, rfl, Hr.out, H1.out, H2.out, H3.out, H4.out, H5.out⟩
end Go.Proofs.Ytdgmmgaihgpccaa
