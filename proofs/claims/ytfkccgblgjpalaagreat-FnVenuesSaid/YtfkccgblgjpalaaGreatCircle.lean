
/- Contracts: the circle's plan (program and reference). -/
import Derived.Test.YtfkccgblgjpalaaGreatTurn
import Derived.Test.YtfkccgblgjpalaaGreatOpen
import Derived.StillTailTactics
namespace Go.Proofs.YtfkccgblgjpalaaGreat
open Go.RowKit

def meetL (x : List Int) (a b : Nat) (home : Bool) : List Int :=
  if home then (x.set a ((b : Int) + 1)).set b (-((a : Int) + 1)) else (x.set b ((a : Int) + 1)).set a (-((b : Int) + 1))
theorem meetL_length (x : List Int) (a b : Nat) (h : Bool) : (meetL x a b h).length = x.length := by unfold meetL; split <;> simp
set_option maxHeartbeats 1000000 in
theorem meet_c (lo hi g c : Nat) (xs : List Int) (a b : Nat) (home : Bool) (w : World) (n : Nat) (hn : xs.length = n) (h : Own 3 lo hi w (some ⟨g, 0, none⟩) c (xs.map (.int .i64))) (ha : a < n) (hb : b < n) (hl : n ≤ 1048576) (hg : lo ≤ g) (hg2 : g < hi) :
    Calls Tryz.prog 35 #[.slice (some ⟨g, 0, none⟩) n c, .int .i64 a, .int .i64 b, .bool home] w fun e w' =>
      e = .returned (.tuple #[]) ∧ Own 3 lo hi w' (some ⟨g, 0, none⟩) c ((meetL xs a b home).map (.int .i64)) ∧ Only lo hi w w' := by
  subst hn
  cases home
  · obtain ⟨x, y, c1, f1, c2, f2, ho⟩ := two_sets h hb ha ((a : Int) + 1) (-((b : Int) + 1)) rfl
    have Ho := Lib.hid ho
    have H := Lib.hid h
    clear ho h
    go_enter Tryz.func35, Tryz.ntmps35
    go_wp2
    go_end0
    exact ⟨rfl, Ho.out, ((Only.refl _ _ _).setCell hg hg2 _).setCell hg hg2 _⟩
  · obtain ⟨x, y, c1, f1, c2, f2, ho⟩ := two_sets h ha hb ((b : Int) + 1) (-((a : Int) + 1)) rfl
    have Ho := Lib.hid ho
    have H := Lib.hid h
    clear ho h
    go_enter Tryz.func35, Tryz.ntmps35
    go_wp2
    go_end0
    exact ⟨rfl, Ho.out, ((Only.refl _ _ _).setCell hg hg2 _).setCell hg hg2 _⟩

def circIn (m r j : Nat) : Nat → List Int → List Int
  | 0, x => x
  | f + 1, x => circIn m r (j + 1) f (meetL x ((r + j) % m) ((r + m - j) % m) (j % 2 == 1))
def circRound (n r : Nat) : List Int := circIn (n - 1) r 1 (n / 2 - 1) (meetL (List.replicate n 0) (n - 1) r (r % 2 == 1))
def circle (n : Nat) : List (List Int) := (List.range (n - 1)).map (circRound n)
def circleOf (n : Int) : List (List Int) := if isClubsB n then circle n.toNat else []
theorem circIn_length (m r : Nat) : ∀ (f j : Nat) (x : List Int), (circIn m r j f x).length = x.length
  | 0, _, _ => rfl
  | f + 1, j, x => by rw [circIn, circIn_length m r f, meetL_length]
theorem circRound_length (n r : Nat) : (circRound n r).length = n := by rw [circRound, circIn_length, meetL_length]; simp
theorem circle_at {n r : Nat} (h : r < n - 1) : (circle n)[r]? = some (circRound n r) := by rw [circle, List.getElem?_map, List.getElem?_range h]; rfl

set_option maxHeartbeats 2000000 in
theorem iCirclePlan_c (n : Int) (w : World) :
    Calls Tryz.prog 6 #[.int .i64 n] w (GivesIIb 3 36 w (circleOf n) (isClubsB n)) := by
  cases hp : isClubsB n
  · have hv : circleOf n = [] := by rw [circleOf, if_neg (by simp [hp])]
    rw [hv]
    have Hp := Lib.hid hp
    clear hp
    clear hv
    go_enter Tryz.func6, Tryz.ntmps6
    go_wp2_with fail
    refine (calls_v (isClubs_c _ _) (congrArg Value.bool Hp.out)).mono ?_
    rintro e w1 ⟨rfl, hq⟩
    go_wp2
    go_ret2
    exact ⟨none, 0, rfl, Own2.nil .., hq.below _⟩
  · have hv : circleOf n = circle n.toNat := by rw [circleOf, if_pos hp]
    rw [hv]
    obtain ⟨h1, h2, h3⟩ := isClubs_true hp
    obtain ⟨n, rfl⟩ := Int.eq_ofNat_of_zero_le (by omega : 0 ≤ n)
    rw [Int.toNat_natCast]
    obtain ⟨m, hm⟩ : ∃ m, n = m + 1 := ⟨n - 1, by omega⟩
    have hm1 : (n : Int) - 1 = (m : Int) := by omega
    have hm2 : m ≤ 9 := by omega
    have hm3 : 1 ≤ m := by omega
    have hcl : (circle n).length = m := by simp [circle]; omega
    have hmk := fun W => run_make_row' (P := Tryz.prog) 36 3 (.int .i64 0) 8 Tryz.underlying36 info_int rfl .i64 .i64 n (by omega) (by omega) W
    have Hp := Lib.hid hp
    have Hm := Lib.hid hm
    have Hcl := Lib.hid hcl
    have H3 := Lib.hid h3
    clear hp hm hcl h3
    clear hv
    go_enter Tryz.func6, Tryz.ntmps6
    go_wp2_with fail
    refine (calls_v (isClubs_c _ _) (congrArg Value.bool Hp.out)).mono ?_
    rintro e w1 ⟨rfl, hq⟩
    have Hq := Lib.hid hq
    clear hq
    go_wp2
    go_loopw [5, 15] (fun v i wr => ∃ (r : Nat) (B : Option Addr) (d : Nat), r ≤ m ∧ i = .int .i64 r ∧ v = .slice B r d ∧ Own2 3 36 w.heap.size wr.heap.size wr B d ((circle n).take r) ∧ Below w.heap.size w wr) (fun _ i _ => m - (intOf i).toNat)
    case atStart => exact ⟨0, none, 0, Nat.zero_le _, rfl, rfl, Own2.nil .., Hq.out.below _⟩
    case round =>
      obtain ⟨r, B, d, hr, rfl, rfl, ho, hb⟩ := hrel
      have Ho := Lib.hid ho
      have Hb := Lib.hid hb
      clear ho hb
      by_cases hlt : r < m
      · obtain ⟨wo, hwo⟩ : ∃ wo : World, wo = wr := ⟨_, rfl⟩
        rw [← hwo] at Ho Hb ⊢
        clear hwo wr
        have hl : ((circle n).take r).length = r := by simp [Hcl.out]; omega
        have homade := own_made 3 wo.heap.size wo (.int .i64 0) n (Nat.le_refl _) (by unfold maxLen; omega)
        have hrep : List.replicate n (Value.int .i64 0) = (List.replicate n (0 : Int)).map (.int .i64) := by simp
        rw [hrep] at homade
        have hrl : (List.replicate n (0 : Int)).length = n := by simp
        have hpar : ((r : Int) % 2 == 1) = (r % 2 == 1) := by rw [Bool.eq_iff_iff]; simp; omega
        have Hl := Lib.hid hl
        have Homade := Lib.hid homade
        have Hrep := Lib.hid hrep
        have Hrl := Lib.hid hrl
        clear hl homade hrep hrl
        go_wp2_with fail
        refine (meet_c wo.heap.size (wo.heap.size + 1) wo.heap.size n (List.replicate n 0) m r (r % 2 == 1) _ n Hrl.out Homade.out (by omega) (by omega) (by omega) (Nat.le_refl _) (Nat.lt_succ_self _)).mono ?_
        rintro e w2 ⟨rfl, ho2, hb2⟩
        have hb2' : Below wo.heap.size wo w2 := ((Below.refl _ _).alloc (Nat.le_refl _) _).trans (below_of_only hb2 (Nat.le_refl _) (by simp))
        have hz2 : wo.heap.size < w2.heap.size := by have := hb2.size; simp at this; omega
        have Ho2 := Lib.hid ho2
        have Hb2' := Lib.hid hb2'
        clear ho2 hb2'
        clear hb2
        go_wp2
        go_loopw [8] (fun i wr => ∃ (j : Nat) (x : List Int), 1 ≤ j ∧ j ≤ n / 2 ∧ i = .int .i64 j ∧ x.length = n ∧ circIn m r j (n / 2 - j) x = circRound n r ∧ Own 3 wo.heap.size (wo.heap.size + 1) wr (some ⟨wo.heap.size, 0, none⟩) n (x.map (.int .i64)) ∧ Below wo.heap.size wo wr ∧ wo.heap.size < wr.heap.size) (fun i _ => n - (intOf i).toNat)
        case atStart => exact ⟨1, _, Nat.le_refl _, by omega, rfl, by rw [meetL_length]; exact Hrl.out, by rw [circRound, show n - 1 = m from by omega], Ho2.out, Hb2'.out, hz2⟩
        case round =>
          obtain ⟨j, x, hj1, hj2, rfl, hxl, hci, ho3, hb3, hz3⟩ := hrel
          have Hci := Lib.hid hci
          have Ho3 := Lib.hid ho3
          have Hb3 := Lib.hid hb3
          have Hxl := Lib.hid hxl
          clear hci ho3 hb3 hxl
          by_cases hlt2 : j < n / 2
          · have hj5 : (j : Int) < (n : Int) / 2 := by omega
            obtain ⟨a, ha⟩ : ∃ a, (r + j) % m = a := ⟨_, rfl⟩
            obtain ⟨b, hb'⟩ : ∃ b, (r + m - j) % m = b := ⟨_, rfl⟩
            have ha1 : a < n := by have := Nat.mod_lt (r + j) (show 0 < m by omega); omega
            have hb1 : b < n := by have := Nat.mod_lt (r + m - j) (show 0 < m by omega); omega
            have hjm : j ≤ m := by omega
            have e1 : IntKind.i64.wrap ((r : Int) + j) = (r : Int) + j := IntWalk.i64_in _ (by omega)
            have e2 : ((r : Int) + j).tmod m = a := by rw [Int.tmod_eq_emod_of_nonneg (by omega), ← ha, Int.natCast_emod, Int.natCast_add]
            have e3 : IntKind.i64.wrap ((r : Int) - j) = (r : Int) - j := IntWalk.i64_in _ (by omega)
            have e4 : IntKind.i64.wrap ((r : Int) - j + m) = (r : Int) - j + m := IntWalk.i64_in _ (by omega)
            have e5 : ((r : Int) - j + m).tmod m = b := by
              rw [Int.tmod_eq_emod_of_nonneg (by omega), ← hb', show (r : Int) - j + m = ((r + m - j : Nat) : Int) from by omega, Int.natCast_emod]
            have e6 : IntKind.i64.wrap (a : Int) = a := IntWalk.i64_in _ (by omega)
            have e7 : IntKind.i64.wrap (b : Int) = b := IntWalk.i64_in _ (by omega)
            have e8 : ((m : Int) == 0) = false := by simp; omega
            have e9 : ¬ m = 0 := by omega
            have e11 : ((j : Int).tmod 2 == 1) = (j % 2 == 1) := by rw [Int.tmod_eq_emod_of_nonneg (by omega), Bool.eq_iff_iff]; simp; omega
            have hstep : circIn m r (j + 1) (n / 2 - (j + 1)) (meetL x a b (j % 2 == 1)) = circRound n r := by
              have := Hci.out
              rw [show n / 2 - j = (n / 2 - (j + 1)) + 1 from by omega, circIn, ha, hb'] at this
              exact this
            have Ha := Lib.hid ha
            have Hb' := Lib.hid hb'
            have Hstep := Lib.hid hstep
            clear ha hb' hstep
            go_wp2
            go_still_tail 16, (by kernel_rfl)
            change wpList _ _ _ _ _ wr.drew
            go_wp2_with fail
            refine (meet_c wo.heap.size (wo.heap.size + 1) wo.heap.size n x a b (j % 2 == 1) wr.drew n Hxl.out (Ho3.out.stay fun _ _ _ => rfl) (by omega) (by omega) (by omega) (Nat.le_refl _) (Nat.lt_succ_self _)).mono ?_
            rintro e w3 ⟨rfl, ho4, hb4⟩
            have hb5 : Below wo.heap.size wo w3 := Hb3.out.drew.trans (below_of_only hb4 (Nat.le_refl _) (by show wo.heap.size ≤ wr.heap.size; omega))
            have hz4 : wo.heap.size < w3.heap.size := by have : wr.heap.size ≤ w3.heap.size := hb4.size; omega
            have Ho4 := Lib.hid ho4
            have Hb5 := Lib.hid hb5
            clear ho4 hb5
            clear hb4
            go_wp2
            go_roundw
            case rel => exact ⟨j + 1, _, by omega, by omega, by go_num, by rw [meetL_length]; exact Hxl.out, Hstep.out, Ho4.out, Hb5.out, hz4⟩
            case measure => simp [intOf]; omega
          · have hj6 : ¬ (j : Int) < (n : Int) / 2 := by omega
            have hfin : x = circRound n r := by have := Hci.out; rw [show n / 2 - j = 0 from by omega, circIn] at this; exact this
            have ho5 := Ho3.out.wide (Nat.le_refl _) hz3
            rw [hfin] at ho5
            have hcl2 := circRound_length n r
            have Ho5 := Lib.hid ho5
            have Hfin := Lib.hid hfin
            have Hcl2 := Lib.hid hcl2
            clear ho5 hfin hcl2
            go_wp2_with (at_builtin; refine wpList_app2 rfl (.tmp 50) (.tmp 52) 24 rfl 3 36 Tryz.underlying24 info_ints info_rows_ne w.heap.size wo.heap.size B d ((circle n).take r) (some ⟨wo.heap.size, 0, none⟩) n (circRound n r) ?_ ?_ ?_ ?_ ?_ r n ?_ ?_ ?_ ?_ ?_; exact Ho.out.below Hb3.out; exact Ho5.out; exact Hb.out.size; omega; (rw [Hl.out]; omega); exact Hl.out.symm; exact Hcl2.out.symm; rfl; rfl; intro B' d' w' ho' hb' hz')
            have Ho' := Lib.hid ho'
            have Hb' := Lib.hid hb'
            clear ho' hb'
            go_wp2
            go_roundw
            case rel => exact ⟨r + 1, B', d', by omega, by go_num, rfl, by rw [take_of (circle_at (by omega))]; exact Ho'.out, (Hb.out.trans (Hb3.out.mono Hb.out.size)).trans Hb'.out⟩
            case measure => simp [intOf]; omega
      · obtain rfl : r = m := by omega
        go_wp2
        go_ret2
        have hO := Ho.out
        rw [List.take_of_length_le (by rw [Hcl.out]; omega)] at hO
        exact ⟨B, d, by rw [Hcl.out]; rfl, hO, Hb.out⟩

set_option maxRecDepth 100000 in
set_option maxHeartbeats 4000000 in
theorem sCirclePlan_c (n : Int) (w : World) :
    Calls Tryz.prog 65 #[.int .i64 n] w (GivesIIb 3 36 w (circleOf n) (isClubsB n)) := by
  cases hp : isClubsB n
  · have hv : circleOf n = [] := by rw [circleOf, if_neg (by simp [hp])]
    rw [hv]
    have Hp := Lib.hid hp
    clear hp
    clear hv
    go_enter Tryz.func65, Tryz.ntmps65
    go_wp2_with fail
    refine (calls_v (l16Size_c _ _) (congrArg Value.bool Hp.out)).mono ?_
    rintro e w1 ⟨rfl, hq⟩
    go_wp2
    go_ret2
    exact ⟨none, 0, rfl, Own2.nil .., hq.below _⟩
  · have hv : circleOf n = circle n.toNat := by rw [circleOf, if_pos hp]
    rw [hv]
    obtain ⟨h1, h2, h3⟩ := isClubs_true hp
    obtain ⟨n, rfl⟩ := Int.eq_ofNat_of_zero_le (by omega : 0 ≤ n)
    rw [Int.toNat_natCast]
    obtain ⟨m, hm⟩ : ∃ m, n = m + 1 := ⟨n - 1, by omega⟩
    have hm1 : (n : Int) - 1 = (m : Int) := by omega
    have hm2 : m ≤ 9 := by omega
    have hm3 : 1 ≤ m := by omega
    have hcl : (circle n).length = m := by simp [circle]; omega
    have hmk := fun W => run_make_row' (P := Tryz.prog) 36 3 (.int .i64 0) 8 Tryz.underlying36 info_int rfl .i64 .i64 n (by omega) (by omega) W
    have Hp := Lib.hid hp
    have Hm := Lib.hid hm
    have Hcl := Lib.hid hcl
    have H3 := Lib.hid h3
    clear hp hm hcl h3
    clear hv
    go_enter Tryz.func65, Tryz.ntmps65
    go_wp2_with fail
    refine (calls_v (l16Size_c _ _) (congrArg Value.bool Hp.out)).mono ?_
    rintro e w1 ⟨rfl, hq⟩
    have Hq := Lib.hid hq
    clear hq
    go_wp2
    go_loopw [4, 5] (fun v i wr => ∃ (r : Nat) (B : Option Addr) (d : Nat), r ≤ m ∧ i = .int .i64 r ∧ v = .slice B r d ∧ Own2 3 36 w.heap.size wr.heap.size wr B d ((circle n).take r) ∧ Below w.heap.size w wr) (fun _ i _ => m - (intOf i).toNat)
    case atStart => exact ⟨0, _, 0, Nat.zero_le _, rfl, rfl, ⟨[], out_empty 36 _ w1 (Hq.out.below 0).size, Inner.nil ..⟩, (Hq.out.below _).alloc (Hq.out.below 0).size _⟩
    case round =>
      obtain ⟨r, B, d, hr, rfl, rfl, ho, hb⟩ := hrel
      have Ho := Lib.hid ho
      have Hb := Lib.hid hb
      clear ho hb
      by_cases hlt : r < m
      · obtain ⟨wo, hwo⟩ : ∃ wo : World, wo = wr := ⟨_, rfl⟩
        rw [← hwo] at Ho Hb ⊢
        clear hwo wr
        have hl : ((circle n).take r).length = r := by simp [Hcl.out]; omega
        have hrep : List.replicate n (Value.int .i64 0) = (List.replicate n (0 : Int)).map (.int .i64) := by simp
        have hrl : (List.replicate n (0 : Int)).length = n := by simp
        obtain ⟨y, hy⟩ : ∃ y, meetL (List.replicate n 0) m r (r % 2 == 1) = y := ⟨_, rfl⟩
        have hyl : y.length = n := by rw [← hy, meetL_length]; exact hrl
        have hy2 : circIn m r 1 (n / 2 - 1) y = circRound n r := by rw [circRound, show n - 1 = m from by omega, hy]
        have hmn : (n : Int) = (m : Int) + 1 := by omega
        have hodd : r % 2 = 1 ∨ r % 2 = 0 := by omega
        have Hmn := Lib.hid hmn
        clear hmn
        rcases hodd with hodd | hodd
        all_goals
          first
            | (have ho1 : ((r : Int) % 2 == 1) = true := by simp; omega
               have ho2 : (r : Int) % 2 = 1 := by omega
               have hy3 : ((List.replicate n (0 : Int)).set m ((r : Int) + 1)).set r (-(n : Int)) = y := by rw [← hy, show (r % 2 == 1) = true from by simp [hodd], meetL, if_pos rfl, Hmn.out])
            | (have ho1 : ((r : Int) % 2 == 1) = false := by simp; omega
               have ho2 : (r : Int) % 2 = 0 := by omega
               have hy3 : ((List.replicate n (0 : Int)).set r (n : Int)).set m (-(r : Int) - 1) = y := by rw [← hy, show (r % 2 == 1) = false from by simp [hodd], meetL, if_neg (by simp), Hmn.out, show -(r : Int) - 1 = -((r : Int) + 1) from by omega])
          have Hy2 := Lib.hid hy2
          have Hy3 := Lib.hid hy3
          have Hyl := Lib.hid hyl
          have Hl := Lib.hid hl
          have Hodd := Lib.hid hodd
          have Hrep := Lib.hid hrep
          have Hrl := Lib.hid hrl
          clear hy hy2 hy3 hyl hl hodd hrep hrl
          go_wp2_with (refine wpList_mk wo rfl (.tmp 20) (.tmp 20) 36 rfl 3 (.int .i64 0) 8 Tryz.underlying36 info_int rfl n ?_ ?_ ?_ ?_ ?_; rfl; rfl; decide; omega; intro w0 homade hb0 hz0; rw [Hrep.out] at homade; obtain ⟨u1, u2, c1, f1, c2, f2, ho5⟩ := two_sets homade (by rw [Hrl.out]; omega) (by rw [Hrl.out]; omega) _ _ Hy3.out; have Ho5 := Lib.hid ho5; have Hb0 := Lib.hid hb0; clear ho5 homade hb0)
          have hz5 := setCell_size
          go_loopw [7] (fun i wr => ∃ (j : Nat) (x : List Int), 1 ≤ j ∧ j ≤ n / 2 ∧ i = .int .i64 j ∧ x.length = n ∧ circIn m r j (n / 2 - j) x = circRound n r ∧ Own 3 wo.heap.size wr.heap.size wr (some ⟨wo.heap.size, 0, none⟩) n (x.map (.int .i64)) ∧ Below wo.heap.size wo wr ∧ wo.heap.size < wr.heap.size) (fun i _ => n - (intOf i).toNat)
          case atStart => exact ⟨1, y, Nat.le_refl _, by omega, rfl, Hyl.out, Hy2.out, Ho5.out.wide (Nat.le_refl _) (by rw [setCell_size, setCell_size]; exact Nat.le_refl _), (Hb0.out.setCell (p := ⟨wo.heap.size, _, none⟩) (Nat.le_refl _) _).setCell (p := ⟨wo.heap.size, _, none⟩) (Nat.le_refl _) _, by rw [setCell_size, setCell_size]; exact hz0⟩
          case round =>
            obtain ⟨j, x, hj1, hj2, rfl, hxl, hci, ho3, hb3, hz3⟩ := hrel
            have Hxl := Lib.hid hxl
            have Hci := Lib.hid hci
            have Ho3 := Lib.hid ho3
            have Hb3 := Lib.hid hb3
            clear hxl hci ho3 hb3 hz5
            by_cases hlt2 : j < n / 2
            · have hj5 : (j : Int) < (n : Int) / 2 := by omega
              obtain ⟨a, ha⟩ : ∃ a, (r + j) % m = a := ⟨_, rfl⟩
              obtain ⟨b, hb'⟩ : ∃ b, (r + m - j) % m = b := ⟨_, rfl⟩
              have ha1 : a < n := by have := Nat.mod_lt (r + j) (show 0 < m by omega); omega
              have hb1 : b < n := by have := Nat.mod_lt (r + m - j) (show 0 < m by omega); omega
              have hjm : j ≤ m := by omega
              have e2 : ((r : Int) + j) % m = a := by rw [← ha, Int.natCast_emod, Int.natCast_add]
              have e5 : ((r : Int) - j + n - 1) % m = b := by
                rw [← hb', show (r : Int) - j + n - 1 = ((r + m - j : Nat) : Int) from by omega, Int.natCast_emod]
              have e9 : ¬ m = 0 := by omega
              have hstep : circIn m r (j + 1) (n / 2 - (j + 1)) (meetL x a b (j % 2 == 1)) = circRound n r := by
                have := Hci.out
                rw [show n / 2 - j = (n / 2 - (j + 1)) + 1 from by omega, circIn, ha, hb'] at this
                exact this
              have Hstep := Lib.hid hstep
              clear ha hb' hstep
              have hjo : j % 2 = 1 ∨ j % 2 = 0 := by omega
              rcases hjo with hjo | hjo
              · have hj7 : (j : Int) % 2 = 1 := by omega
                obtain ⟨u1, u2, c1, f1, c2, f2, ho6⟩ := two_sets (zs := meetL x a b (j % 2 == 1)) Ho3.out (a := a) (b := b) (by rw [Hxl.out]; exact ha1) (by rw [Hxl.out]; exact hb1) ((b : Int) + 1) (-(a : Int) - 1) (by rw [show (j % 2 == 1) = true from by simp [hjo], meetL, if_pos rfl, show -(a : Int) - 1 = -((a : Int) + 1) from by omega])
                have Ho6 := Lib.hid ho6
                have Hjo := Lib.hid hjo
                clear ho6 hjo
                go_wp2
                go_roundw
                case rel => exact ⟨j + 1, _, by omega, by omega, by go_num, by rw [meetL_length]; exact Hxl.out, Hstep.out, Ho6.out.wide (Nat.le_refl _) (by rw [setCell_size, setCell_size]; exact Nat.le_refl _), (Hb3.out.setCell (p := ⟨wo.heap.size, _, none⟩) (Nat.le_refl _) _).setCell (p := ⟨wo.heap.size, _, none⟩) (Nat.le_refl _) _, by rw [setCell_size, setCell_size]; exact hz3⟩
                case measure => simp [intOf]; omega
              · have hj7 : (j : Int) % 2 = 0 := by omega
                obtain ⟨u1, u2, c1, f1, c2, f2, ho6⟩ := two_sets (zs := meetL x a b (j % 2 == 1)) Ho3.out (a := b) (b := a) (by rw [Hxl.out]; exact hb1) (by rw [Hxl.out]; exact ha1) ((a : Int) + 1) (-(b : Int) - 1) (by rw [show (j % 2 == 1) = false from by simp [hjo], meetL, if_neg (by simp), show -(b : Int) - 1 = -((b : Int) + 1) from by omega])
                have Ho6 := Lib.hid ho6
                have Hjo := Lib.hid hjo
                clear ho6 hjo
                go_wp2
                go_roundw
                case rel => exact ⟨j + 1, _, by omega, by omega, by go_num, by rw [meetL_length]; exact Hxl.out, Hstep.out, Ho6.out.wide (Nat.le_refl _) (by rw [setCell_size, setCell_size]; exact Nat.le_refl _), (Hb3.out.setCell (p := ⟨wo.heap.size, _, none⟩) (Nat.le_refl _) _).setCell (p := ⟨wo.heap.size, _, none⟩) (Nat.le_refl _) _, by rw [setCell_size, setCell_size]; exact hz3⟩
                case measure => simp [intOf]; omega
            · have hj6 : ¬ (j : Int) < (n : Int) / 2 := by omega
              have hfin : x = circRound n r := by have := Hci.out; rw [show n / 2 - j = 0 from by omega, circIn] at this; exact this
              have ho5 := Ho3.out
              rw [hfin] at ho5
              have Hcl2 := Lib.hid (circRound_length n r)
              have Ho7 := Lib.hid ho5
              clear ho5 hfin
              go_wp2_with (at_builtin; refine wpList_app2 rfl (.tmp 93) (.tmp 95) 24 rfl 3 36 Tryz.underlying24 info_ints info_rows_ne w.heap.size wo.heap.size B d ((circle n).take r) (some ⟨wo.heap.size, 0, none⟩) n (circRound n r) ?_ ?_ ?_ ?_ ?_ r n ?_ ?_ ?_ ?_ ?_; exact Ho.out.below Hb3.out; exact Ho7.out; exact Hb.out.size; omega; (rw [Hl.out]; omega); exact Hl.out.symm; exact Hcl2.out.symm; rfl; rfl; intro B' d' w' ho' hb' hz'; have Ho' := Lib.hid ho'; have Hb' := Lib.hid hb'; clear ho' hb')
              go_wp2
              go_roundw
              case rel => exact ⟨r + 1, B', d', by omega, by go_num, rfl, by rw [take_of (circle_at (by omega))]; exact Ho'.out, (Hb.out.trans (Hb3.out.mono Hb.out.size)).trans Hb'.out⟩
              case measure => simp [intOf]; omega
      · obtain rfl : r = m := by omega
        go_wp2
        go_ret2
        have hO := Ho.out
        rw [List.take_of_length_le (by rw [Hcl.out]; omega)] at hO
        exact ⟨B, d, by rw [Hcl.out]; rfl, hO, Hb.out⟩
end Go.Proofs.YtfkccgblgjpalaaGreat
