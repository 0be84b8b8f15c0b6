/- Contracts: when a last day is valid, and a club of it (program and reference). -/
import Derived.Test.YteigcfcabmoghaaIdx
import Derived.Test.YteigcfcabmoghaaClone
import Derived.Test.YteigcfcabmoghaaBit0
namespace Go.Proofs.Yteigcfcabmoghaa
open Go.RowKit

def addAll (f : List Int → Bool) : List Int → List Int → Bool
  | seen, [] => f seen
  | seen, c :: r => !decide (c ∈ seen) && addAll f (seen ++ [c]) r
def dayGames (n : Int) : List (List Int) → List Int → Bool
  | [], _ => true
  | g :: r, seen => decide (g.length = 2) && (g.all (fun x => inR x 0 (n - 1)) && addAll (dayGames n r) seen g)
def dayOk (points : List Int) (games : List (List Int)) : Bool := inR points.length 2 8 && (points.all (fun x => inR x 0 200) && (decide (games.length ≤ 4) && dayGames points.length games []))
theorem two_of {g : List Int} (h : g.length = 2) : ∃ x y, g = [x, y] := by
  match g, h with
  | [x, y], _ => exact ⟨x, y, rfl⟩
theorem ints2 {w : World} {a : Option Addr} {x y : Int} (h : Ints w a [x, y]) :
    ∃ ad, a = some ad ∧ w.cell? ad = some (.int .i64 x) ∧ w.cell? ⟨ad.block, ad.off + 1, none⟩ = some (.int .i64 y) := by
  obtain ⟨ad, rfl, h0⟩ := h 0 x rfl
  obtain ⟨ad1, e1, h1⟩ := h 1 y rfl
  injection e1 with e1
  subst e1
  rw [Addr.add_zero'] at h0
  exact ⟨_, rfl, h0, by simpa [Addr.add] using h1⟩
theorem below_dr {B : Nat} {a b c : World} (h : Below B a b) (k : Dr b c) : Below B a c := h.trans (k.below _)
theorem dr_below {a b c : World} (h : Dr a b) (k : Below b.heap.size b c) : Below a.heap.size a c := (h.below _).trans (k.mono (h.below 0).size)

set_option maxHeartbeats 2000000 in
theorem iDayOk_c (A B : Option Addr) (c d : Nat) (points : List Int) (games : List (List Int)) (w : World) (ha : Ints w A points) (hb : Rows w B games) (hm : points.length ≤ 1048576) :
    Calls Try.prog 17 #[.slice A points.length c, .slice B games.length d] w (Gives w (.bool (dayOk points games))) := by
  generalize hR : dayOk points games = R
  have HR := Lib.hid hR
  clear hR
  have Ha := Lib.hid ha
  have Hb := Lib.hid hb
  clear ha hb
  cases h1 : inR points.length 2 8
  · have H1 := Lib.hid h1
    clear h1
    go_enter Try.func17, Try.ntmps17
    go_wp2_with fail
    refine (calls_v (within_c _ _ _ _) (congrArg Value.bool H1.out)).mono ?_
    rintro e w1 ⟨rfl, hq⟩
    go_wp2
    go_ret
    exact ⟨ret_bool (by rw [← HR.out]; simp [dayOk, H1.out]), hq.below _⟩
  · obtain ⟨n1, n2⟩ := inR_true h1
    cases h2 : points.all (fun x => inR x 0 200)
    · have H1 := Lib.hid h1
      have H2 := Lib.hid h2
      clear h1 h2
      go_enter Try.func17, Try.ntmps17
      go_wp2_with fail
      refine (calls_v (within_c _ _ _ _) (congrArg Value.bool H1.out)).mono ?_
      rintro e w1 ⟨rfl, hq⟩
      have Hq := Lib.hid hq
      clear hq
      go_wp2_with fail
      refine (gives_v (allWithin_c _ _ _ _ _ _ (Ha.out.keep Hq.out.keep) hm) (congrArg Value.bool H2.out)).mono ?_
      rintro e w2 ⟨rfl, hb2⟩
      go_wp2
      go_ret
      exact ⟨ret_bool (by rw [← HR.out]; simp only [dayOk, H1.out, H2.out]; rfl), dr_below Hq.out hb2⟩
    · by_cases h3 : games.length ≤ 4
      · have HS : Hid (dayGames points.length (games.drop 0) [] = R) := Lib.hid (by rw [← HR.out]; simp only [dayOk, h1, h2, h3, decide_true, Bool.true_and]; rfl)
        have wn : IntKind.i64.wrap ((points.length : Int) - 1) = (points.length : Int) - 1 := IntWalk.i64_in _ (by omega)
        have H1 := Lib.hid h1
        have H2 := Lib.hid h2
        clear h1 h2
        go_enter Try.func17, Try.ntmps17
        go_wp2_with fail
        refine (calls_v (within_c _ _ _ _) (congrArg Value.bool H1.out)).mono ?_
        rintro e w1 ⟨rfl, hq⟩
        have Hq := Lib.hid hq
        clear hq
        go_wp2_with fail
        refine (gives_v (allWithin_c _ _ _ _ _ _ (Ha.out.keep Hq.out.keep) hm) (congrArg Value.bool H2.out)).mono ?_
        rintro e w2 ⟨rfl, hb2⟩
        have Hb2 := Lib.hid (dr_below Hq.out hb2)
        clear hb2
        go_wp2
        go_loopw [26, 5] (fun i p wr => ∃ (k : Nat) (seen : List Int) (C : Option Addr) (cc : Nat), k ≤ games.length ∧ seen.length = 2 * k ∧ i = .int .i64 k ∧ p = .slice C seen.length cc ∧ dayGames points.length (games.drop k) seen = R ∧ Own 3 w.heap.size wr.heap.size wr C cc (seen.map (.int .i64)) ∧ Below w.heap.size w wr) (fun i _ _ => games.length - (intOf i).toNat)
        case atStart => exact ⟨0, [], none, 0, Nat.zero_le _, rfl, rfl, rfl, HS.out, Own.nil .., Hb2.out⟩
        case round =>
          obtain ⟨k, seen, C, cc, hk, hsl, rfl, rfl, hS, ho, hd⟩ := hrel
          have HS := Lib.hid hS
          have Ho := Lib.hid ho
          have Hd := Lib.hid hd
          have Hsl := Lib.hid hsl
          clear hS ho hd hsl
          by_cases hlt : k < games.length
          · obtain ⟨g, hx⟩ := some_of hlt
            obtain ⟨bd, a, c', rfl, _, _, hcaw, hiaw⟩ := Hb.out k g hx
            have hca := keep_of_below Hd.out _ _ hcaw
            have Hia := Lib.hid hiaw
            clear hcaw hiaw
            have HS2 : Hid ((decide (g.length = 2) && (g.all (fun x => inR x 0 ((points.length : Int) - 1)) && addAll (dayGames points.length (games.drop (k + 1))) seen g)) = R) := Lib.hid (by have := HS.out; rwa [drop_of hx, dayGames] at this)
            by_cases hlen : g.length = 2
            · have hlen' : ((g.length : Int) != 2) = false := by simp [hlen]
              cases hall : g.all (fun x => inR x 0 ((points.length : Int) - 1))
              · have HS3 : Hid (false = R) := Lib.hid (by have := HS2.out; rw [hall] at this; simpa using this)
                have hcon := gives_v (allWithin_c a c' g 0 ((points.length : Int) - 1) wr (Hia.out.keep (keep_of_below Hd.out)) (by omega)) (congrArg Value.bool hall)
                have Hx := Lib.hid hx
                have Hlen := Lib.hid hlen
                have Hall := Lib.hid hall
                have Hcon := Lib.hid hcon
                clear hx hlen hall hcon
                go_wp2_with fail
                refine Hcon.out.mono ?_
                rintro e w3 ⟨rfl, hb3⟩
                go_wp2
                go_ret
                exact ⟨ret_bool HS3.out, Hd.out.trans (hb3.mono Hd.out.size)⟩
              · have HS3 : Hid (addAll (dayGames points.length (games.drop (k + 1))) seen (g.drop 0) = R) := Lib.hid (by have := HS2.out; rw [hall, decide_eq_true hlen] at this; simpa using this)
                have hcon := gives_v (allWithin_c a c' g 0 ((points.length : Int) - 1) wr (Hia.out.keep (keep_of_below Hd.out)) (by omega)) (congrArg Value.bool hall)
                have Hx := Lib.hid hx
                have Hall := Lib.hid hall
                have Hcon := Lib.hid hcon
                have Hlen := Lib.hid hlen
                clear hx hall hcon hlen
                go_wp2_with fail
                refine Hcon.out.mono ?_
                rintro e w3 ⟨rfl, hb3⟩
                have Hd3 := Lib.hid (Hd.out.trans (hb3.mono Hd.out.size))
                have Ho3 := Lib.hid ((Ho.out.below hb3).wide (Nat.le_refl _) hb3.size)
                clear hb3 hca
                clear hlen'
                go_wp2
                go_loopw [43, 5] (fun i p wr => ∃ (j : Nat) (s : List Int) (C : Option Addr) (cc : Nat), j ≤ g.length ∧ s.length = 2 * k + j ∧ i = .int .i64 j ∧ p = .slice C s.length cc ∧ addAll (dayGames points.length (games.drop (k + 1))) s (g.drop j) = R ∧ Own 3 w.heap.size wr.heap.size wr C cc (s.map (.int .i64)) ∧ Below w.heap.size w wr) (fun i _ _ => g.length - (intOf i).toNat)
                case atStart => exact ⟨0, seen, C, cc, Nat.zero_le _, Hsl.out, rfl, rfl, HS3.out, Ho3.out, Hd3.out⟩
                case round =>
                  clear Ho3 Hd3 Ho Hd HS3 HS2 HS Hb2
                  obtain ⟨j, s, C, cc, hj, hsl2, rfl, rfl, hS, ho, hd⟩ := hrel
                  have hs100 : s.length ≤ 100 := by have := Hlen.out; omega
                  have hg100 : g.length ≤ 100 := by have := Hlen.out; omega
                  have HS := Lib.hid hS
                  have Ho := Lib.hid ho
                  have Hd := Lib.hid hd
                  have Hsl2 := Lib.hid hsl2
                  clear hS ho hd hsl2
                  by_cases hlt2 : j < g.length
                  · obtain ⟨v, hv⟩ := some_of hlt2
                    obtain ⟨ad, rfl, hcv⟩ := (Hia.out.keep (keep_of_below Hd.out)) j v hv
                    have HS4 : Hid ((!decide (v ∈ s) && addAll (dayGames points.length (games.drop (k + 1))) (s ++ [v]) (g.drop (j + 1))) = R) := Lib.hid (by have := HS.out; rwa [drop_of hv, addAll] at this)
                    have hcon := contains_c C cc s v wr Ho.out.ints (by omega)
                    have Hv := Lib.hid hv
                    clear hv
                    cases hin : decide (v ∈ s)
                    · rw [hin] at hcon
                      have HS5 : Hid (addAll (dayGames points.length (games.drop (k + 1))) (s ++ [v]) (g.drop (j + 1)) = R) := Lib.hid (by have := HS4.out; rwa [hin, Bool.not_false, Bool.true_and] at this)
                      have Hlm : Hid (s.length = (s.map (Value.int .i64)).length) := Lib.hid (by simp)
                      have Hin := Lib.hid hin
                      have Hcon := Lib.hid hcon
                      clear hin hcon
                      go_wp2_with fail
                      refine Hcon.out.mono ?_
                      rintro e w4 ⟨rfl, hq4⟩
                      have Ho4 := Lib.hid ((Ho.out.below (hq4.below _)).wide (Nat.le_refl _) (hq4.below 0).size)
                      have Hd4 := Lib.hid (below_dr Hd.out hq4)
                      clear hq4
                      go_wp2_with (at_builtin; refine wpList_app1 rfl (.tmp 50) (.tmp 52) 22 rfl 3 (.int .i64 0) 8 Try.underlying22 info_int rfl w.heap.size C cc (s.map (.int .i64)) ?_ ?_ (.int .i64 v) rfl ?_ ?_ s.length ?_ ?_ ?_ ?_; exact Ho4.out; exact Hd4.out.size; (rw [← Hlm.out]; omega); decide; exact Hlm.out; rfl; rfl; intro A' c' w' ho' hb' _ _)
                      have hd5 := Hd4.out.trans hb'
                      have Ho' := Lib.hid ho'
                      have Hd5 := Lib.hid hd5
                      clear ho' hd5
                      clear hb'
                      go_wp2
                      go_roundw
                      case rel => exact ⟨j + 1, s ++ [v], A', c', by omega, by rw [List.length_append, Hsl2.out]; rfl, by go_num, by simp, HS5.out, by simpa using Ho'.out, Hd5.out⟩
                      case measure => simp [intOf]; omega
                    · rw [hin] at hcon
                      have HS5 : Hid (false = R) := Lib.hid (by have := HS4.out; rwa [hin] at this)
                      have Hin := Lib.hid hin
                      have Hcon := Lib.hid hcon
                      clear hin hcon
                      go_wp2_with fail
                      refine Hcon.out.mono ?_
                      rintro e w4 ⟨rfl, hq4⟩
                      go_wp2
                      go_ret
                      exact ⟨ret_bool HS5.out, below_dr Hd.out hq4⟩
                  · obtain rfl : j = g.length := by omega
                    have HS4 : Hid (dayGames points.length (games.drop (k + 1)) s = R) := Lib.hid (by have := HS.out; rwa [List.drop_length, addAll] at this)
                    have hsl3 : s.length = 2 * (k + 1) := by rw [Hsl2.out, Hlen.out]; omega
                    go_wp2
                    go_roundw
                    case rel => exact ⟨k + 1, s, C, cc, by omega, hsl3, by go_num, rfl, HS4.out, Ho.out, Hd.out⟩
                    case measure => simp [intOf]; omega
            · have hlen' : ((g.length : Int) != 2) = true := by simp; omega
              have HS3 : Hid (false = R) := Lib.hid (by have := HS2.out; rw [decide_eq_false hlen] at this; simpa using this)
              have Hx := Lib.hid hx
              have Hlen := Lib.hid hlen
              clear hx hlen
              go_wp2
              go_ret
              exact ⟨ret_bool HS3.out, Hd.out⟩
          · obtain rfl : k = games.length := by omega
            have HS2 : Hid (true = R) := Lib.hid (by have := HS.out; rwa [List.drop_length, dayGames] at this)
            go_wp2
            go_ret
            exact ⟨ret_bool HS2.out, Hd.out⟩
      · have H1 := Lib.hid h1
        have H2 := Lib.hid h2
        clear h1 h2
        go_enter Try.func17, Try.ntmps17
        go_wp2_with fail
        refine (calls_v (within_c _ _ _ _) (congrArg Value.bool H1.out)).mono ?_
        rintro e w1 ⟨rfl, hq⟩
        have Hq := Lib.hid hq
        clear hq
        go_wp2_with fail
        refine (gives_v (allWithin_c _ _ _ _ _ _ (Ha.out.keep Hq.out.keep) hm) (congrArg Value.bool H2.out)).mono ?_
        rintro e w2 ⟨rfl, hb2⟩
        go_wp2
        go_ret
        exact ⟨ret_bool (by rw [← HR.out]; simp only [dayOk, h3, decide_false, Bool.and_false, Bool.false_and]), dr_below Hq.out hb2⟩

set_option maxRecDepth 100000 in
set_option maxHeartbeats 4000000 in
theorem sDayOk_c (A B : Option Addr) (c d : Nat) (points : List Int) (games : List (List Int)) (w : World) (ha : Ints w A points) (hb : Rows w B games) (hm : points.length ≤ 1048576) :
    Calls Try.prog 14 #[.slice A points.length c, .slice B games.length d] w (Quiet w (.bool (dayOk points games))) := by
  generalize hR : dayOk points games = R
  have HR := Lib.hid hR
  clear hR
  have Ha := Lib.hid ha
  have Hb := Lib.hid hb
  clear ha hb
  cases h1 : inR points.length 2 8
  · have H1 := Lib.hid h1
    clear h1
    go_enter Try.func14, Try.ntmps14
    go_wp2_with fail
    refine (calls_v (l01In_c _ _ _ _) (congrArg Value.bool H1.out)).mono ?_
    rintro e w1 ⟨rfl, hq⟩
    go_wp2
    go_ret
    exact ⟨ret_bool (by rw [← HR.out]; simp [dayOk, H1.out]), hq⟩
  · obtain ⟨n1, n2⟩ := inR_true h1
    by_cases h3 : games.length ≤ 4
    · have HS : Hid ((points.all (fun x => inR x 0 200) && dayGames points.length games []) = R) := Lib.hid (by rw [← HR.out]; simp only [dayOk, h1, h3, decide_true, Bool.true_and])
      have wn : IntKind.i64.wrap ((points.length : Int) - 1) = (points.length : Int) - 1 := IntWalk.i64_in _ (by omega)
      have H1 := Lib.hid h1
      clear h1
      go_enter Try.func14, Try.ntmps14
      go_wp2_with fail
      refine (calls_v (l01In_c _ _ _ _) (congrArg Value.bool H1.out)).mono ?_
      rintro e w1 ⟨rfl, hq⟩
      have Hq := Lib.hid hq
      clear hq
      go_wp2
      go_loopw [23] (fun i wr => ∃ k : Nat, k ≤ points.length ∧ i = .int .i64 k ∧ ((points.drop k).all (fun x => inR x 0 200) && dayGames points.length games []) = R ∧ Dr w wr) (fun i _ => points.length - (intOf i).toNat)
      case atStart => exact ⟨0, Nat.zero_le _, rfl, HS.out, Hq.out⟩
      case round =>
        obtain ⟨k, hk, rfl, hS, hd⟩ := hrel
        have HS := Lib.hid hS
        have Hd := Lib.hid hd
        clear hS hd
        by_cases hlt : k < points.length
        · obtain ⟨v, hv⟩ := some_of hlt
          obtain ⟨bd, rfl, hca⟩ := Ha.out.keep Hd.out.keep k v hv
          have HS2 : Hid ((inR v 0 200 && (points.drop (k + 1)).all (fun x => inR x 0 200) && dayGames points.length games []) = R) := Lib.hid (by have := HS.out; rwa [drop_of hv, List.all_cons] at this)
          have Hv := Lib.hid hv
          clear hv
          cases hc : inR v 0 200
          · have HS3 : Hid (false = R) := Lib.hid (by have := HS2.out; rwa [hc] at this)
            have Hc := Lib.hid hc
            clear hc
            go_wp2_with fail
            refine (calls_v (l01In_c _ _ _ _) (congrArg Value.bool Hc.out)).mono ?_
            rintro e w2 ⟨rfl, hq⟩
            go_wp2
            go_ret
            exact ⟨ret_bool HS3.out, Hd.out.trans hq⟩
          · have HS3 : Hid (((points.drop (k + 1)).all (fun x => inR x 0 200) && dayGames points.length games []) = R) := Lib.hid (by have := HS2.out; rwa [hc, Bool.true_and] at this)
            have Hc := Lib.hid hc
            clear hc
            go_wp2_with fail
            refine (calls_v (l01In_c _ _ _ _) (congrArg Value.bool Hc.out)).mono ?_
            rintro e w2 ⟨rfl, hq⟩
            have Hq2 := Lib.hid hq
            clear hq
            go_wp2
            go_roundw
            case rel => exact ⟨k + 1, by omega, by go_num, HS3.out, Hd.out.trans Hq2.out⟩
            case measure => simp [intOf]; omega
        · obtain rfl : k = points.length := by omega
          have HS2 : Hid (dayGames points.length (games.drop 0) [] = R) := Lib.hid (by have := HS.out; rwa [List.drop_length, List.all_nil, Bool.true_and] at this)
          go_wp2
          obtain ⟨wo, hwo⟩ : ∃ wo : World, wo = wr := ⟨_, rfl⟩
          rw [← hwo] at Hd ⊢
          clear hwo wr
          go_loopw [33, 8] (fun i m wr => ∃ (k u : Nat) (seen : List Int), k ≤ games.length ∧ i = .int .i64 k ∧ m = .int .i64 u ∧ u < 2 ^ 8 ∧ UsedOf u seen ∧ dayGames points.length (games.drop k) seen = R ∧ Dr w wr) (fun i _ _ => games.length - (intOf i).toNat)
          case atStart => exact ⟨0, 0, [], Nat.zero_le _, rfl, rfl, by decide, UsedOf.zero, HS2.out, Hd.out⟩
          case round =>
            clear HS2 Hd HS
            obtain ⟨k, u, seen, hk, rfl, rfl, hu, hus, hS, hd⟩ := hrel
            have HS := Lib.hid hS
            have Hd := Lib.hid hd
            have Hus := Lib.hid hus
            clear hS hd hus
            by_cases hlt : k < games.length
            · obtain ⟨g, hx⟩ := some_of hlt
              obtain ⟨bd, a, c', rfl, _, _, hca, hia⟩ := Hb.out.keep Hd.out.keep k g hx
              have HS2 : Hid ((decide (g.length = 2) && (g.all (fun x => inR x 0 ((points.length : Int) - 1)) && addAll (dayGames points.length (games.drop (k + 1))) seen g)) = R) := Lib.hid (by have := HS.out; rwa [drop_of hx, dayGames] at this)
              by_cases hlen : g.length = 2
              · obtain ⟨x, y, rfl⟩ := two_of hlen
                obtain ⟨ad, rfl, h0, h1⟩ := ints2 hia
                have hca' : wr.cell? (bd.add k) = some (.slice (some ad) 2 c') := hca
                have HS3 : Hid (((inR x 0 ((points.length : Int) - 1) && inR y 0 ((points.length : Int) - 1)) && (!decide (x ∈ seen) && (!decide (y ∈ seen ++ [x]) && dayGames points.length (games.drop (k + 1)) (seen ++ [x] ++ [y])))) = R) := Lib.hid (by have := HS2.out; simpa [addAll] using this)
                clear hca hia
                have Hx := Lib.hid hx
                clear hx
                cases hx0 : inR x 0 ((points.length : Int) - 1)
                · have HS4 : Hid (false = R) := Lib.hid (by have := HS3.out; rw [hx0] at this; simpa using this)
                  have Hx0 := Lib.hid hx0
                  clear hx0
                  go_wp2
                  go_quiet ((go_at_call 42; exact quiet_call (calls_v (l01In_c _ _ _ _) (congrArg Value.bool Hx0.out))))
                  go_wp2
                  go_ret
                  exact ⟨ret_bool HS4.out, Hd.out.dN _⟩
                · obtain ⟨x1, x2⟩ := inR_true hx0
                  cases hy0 : inR y 0 ((points.length : Int) - 1)
                  · have HS4 : Hid (false = R) := Lib.hid (by have := HS3.out; rw [hy0] at this; simpa using this)
                    have Hx0 := Lib.hid hx0
                    have Hy0 := Lib.hid hy0
                    clear hx0 hy0
                    go_wp2
                    go_quiet ((first | (go_at_call 42; exact quiet_call (calls_v (l01In_c _ _ _ _) (congrArg Value.bool Hx0.out))) | (go_at_call 42; exact quiet_call (calls_v (l01In_c _ _ _ _) (congrArg Value.bool Hy0.out)))))
                    go_wp2
                    go_ret
                    exact ⟨ret_bool HS4.out, Hd.out.dN _⟩
                  · obtain ⟨y1, y2⟩ := inR_true hy0
                    have HS4 : Hid ((!decide (x ∈ seen) && (!decide (y ∈ seen ++ [x]) && dayGames points.length (games.drop (k + 1)) (seen ++ [x] ++ [y]))) = R) := Lib.hid (by have := HS3.out; rwa [hx0, hy0, Bool.and_self, Bool.true_and] at this)
                    obtain ⟨x, rfl⟩ := Int.eq_ofNat_of_zero_le x1
                    obtain ⟨y, rfl⟩ := Int.eq_ofNat_of_zero_le y1
                    by_cases hxy : x = y
                    · have hxy' : ((x : Int) == (y : Int)) = true := by simp [hxy]
                      have HS5 : Hid (false = R) := Lib.hid (by have := HS4.out; rw [hxy] at this; simpa using this)
                      have Hx0 := Lib.hid hx0
                      have Hy0 := Lib.hid hy0
                      have Hxy := Lib.hid hxy
                      clear hx0 hy0 hxy
                      go_wp2
                      go_quiet ((first | (go_at_call 42; exact quiet_call (calls_v (l01In_c _ _ _ _) (congrArg Value.bool Hx0.out))) | (go_at_call 42; exact quiet_call (calls_v (l01In_c _ _ _ _) (congrArg Value.bool Hy0.out)))))
                      go_wp2
                      go_ret
                      exact ⟨ret_bool HS5.out, Hd.out.dN _⟩
                    · have hxy' : ((x : Int) == (y : Int)) = false := by simp; omega
                      obtain ⟨p, hp⟩ : ∃ p, u / 2 ^ x = p := ⟨_, rfl⟩
                      have hp64 : p < 256 := by rw [← hp]; exact Nat.lt_of_le_of_lt (Nat.div_le_self _ _) hu
                      have f1 : (u : Int) / 2 ^ x = (p : Int) := by rw [← hp]; exact shr_nat u x
                      have f2 : bits .and .i64 (p : Int) 1 = ((p % 2 : Nat) : Int) := and_one p (by omega)
                      have hpx : p % 2 = 1 ↔ (x : Int) ∈ seen := by rw [← hp]; exact Hus.out x
                      by_cases hp1 : p % 2 = 1
                      · have f3 : ((p : Int) % 2 == 1) = true := by simp; omega
                        have HS5 : Hid (false = R) := Lib.hid (by have := HS4.out; rw [decide_eq_true (hpx.1 hp1)] at this; simpa using this)
                        have Hx0 := Lib.hid hx0
                        have Hy0 := Lib.hid hy0
                        have Hxy := Lib.hid hxy
                        have Hp := Lib.hid hp
                        have Hp1 := Lib.hid hp1
                        have Hpx := Lib.hid hpx
                        clear hx0 hy0 hxy hp hp1 hpx
                        go_wp2
                        go_quiet ((first | (go_at_call 42; exact quiet_call (calls_v (l01In_c _ _ _ _) (congrArg Value.bool Hx0.out))) | (go_at_call 42; exact quiet_call (calls_v (l01In_c _ _ _ _) (congrArg Value.bool Hy0.out)))))
                        go_wp2
                        go_ret
                        exact ⟨ret_bool HS5.out, Hd.out.dN _⟩
                      · have f3 : ((p : Int) % 2 == 1) = false := by simp; omega
                        obtain ⟨q, hq⟩ : ∃ q, u / 2 ^ y = q := ⟨_, rfl⟩
                        have hq64 : q < 256 := by rw [← hq]; exact Nat.lt_of_le_of_lt (Nat.div_le_self _ _) hu
                        have f4 : (u : Int) / 2 ^ y = (q : Int) := by rw [← hq]; exact shr_nat u y
                        have f5 : bits .and .i64 (q : Int) 1 = ((q % 2 : Nat) : Int) := and_one q (by omega)
                        have hqy : q % 2 = 1 ↔ (y : Int) ∈ seen := by rw [← hq]; exact Hus.out y
                        have hmem : (y : Int) ∈ seen ++ [(x : Int)] ↔ (y : Int) ∈ seen := by
                          simp only [List.mem_append, List.mem_singleton]
                          constructor
                          · rintro (h | h)
                            · exact h
                            · omega
                          · exact .inl
                        by_cases hq1 : q % 2 = 1
                        · have f6 : ((q : Int) % 2 == 1) = true := by simp; omega
                          have HS5 : Hid (false = R) := Lib.hid (by have := HS4.out; rw [decide_eq_true (hmem.2 (hqy.1 hq1))] at this; simpa using this)
                          have Hx0 := Lib.hid hx0
                          have Hy0 := Lib.hid hy0
                          have Hxy := Lib.hid hxy
                          have Hp := Lib.hid hp
                          have Hp1 := Lib.hid hp1
                          have Hpx := Lib.hid hpx
                          have Hq := Lib.hid hq
                          have Hq1 := Lib.hid hq1
                          have Hqy := Lib.hid hqy
                          have Hmem := Lib.hid hmem
                          clear hx0 hy0 hxy hp hp1 hpx hq hq1 hqy hmem
                          go_wp2
                          go_quiet ((first | (go_at_call 42; exact quiet_call (calls_v (l01In_c _ _ _ _) (congrArg Value.bool Hx0.out))) | (go_at_call 42; exact quiet_call (calls_v (l01In_c _ _ _ _) (congrArg Value.bool Hy0.out)))))
                          go_wp2
                          go_ret
                          exact ⟨ret_bool HS5.out, Hd.out.dN _⟩
                        · have f6 : ((q : Int) % 2 == 1) = false := by simp; omega
                          have HS5 : Hid (dayGames points.length (games.drop (k + 1)) (seen ++ [(x : Int)] ++ [(y : Int)]) = R) := Lib.hid (by
                            have := HS4.out
                            rwa [decide_eq_false (fun h => hp1 (hpx.2 h)), decide_eq_false (fun h => hq1 (hqy.2 (hmem.1 h))), Bool.not_false, Bool.true_and, Bool.true_and] at this)
                          have hus2 := (Hus.out.add x).add y
                          obtain ⟨X, hX⟩ : ∃ X, 2 ^ x = X := ⟨_, rfl⟩
                          obtain ⟨Y, hY⟩ : ∃ Y, 2 ^ y = Y := ⟨_, rfl⟩
                          have hX8 : X < 2 ^ 8 := by rw [← hX]; exact Nat.pow_lt_pow_right (by decide) (by omega)
                          have hY8 : Y < 2 ^ 8 := by rw [← hY]; exact Nat.pow_lt_pow_right (by decide) (by omega)
                          have k1 : wrap64 ((2 : Int) ^ x) = (X : Int) := pow_wrap hX (by omega)
                          have k2 : wrap64 ((2 : Int) ^ y) = (Y : Int) := pow_wrap hY (by omega)
                          have hu1 : u ||| X < 2 ^ 8 := Nat.or_lt_two_pow hu hX8
                          have hu2 : u ||| X ||| Y < 2 ^ 8 := Nat.or_lt_two_pow hu1 hY8
                          have k3 : bits .or .i64 (u : Int) (X : Int) = ((u ||| X : Nat) : Int) := i64_or_nat u X (Nat.lt_trans hu (by decide)) (Nat.lt_trans hX8 (by decide))
                          have k4 : bits .or .i64 ((u ||| X : Nat) : Int) (Y : Int) = ((u ||| X ||| Y : Nat) : Int) := i64_or_nat (u ||| X) Y (Nat.lt_trans hu1 (by decide)) (Nat.lt_trans hY8 (by decide))
                          rw [hX, hY] at hus2
                          generalize u ||| X = V at k3 k4 hu1 hu2 hus2
                          generalize V ||| Y = W at k4 hu2 hus2
                          have Hx0 := Lib.hid hx0
                          have Hy0 := Lib.hid hy0
                          have Hxy := Lib.hid hxy
                          have Hp := Lib.hid hp
                          have Hp1 := Lib.hid hp1
                          have Hpx := Lib.hid hpx
                          have Hq := Lib.hid hq
                          have Hq1 := Lib.hid hq1
                          have Hqy := Lib.hid hqy
                          have Hmem := Lib.hid hmem
                          have Hus2 := Lib.hid hus2
                          have HX := Lib.hid hX
                          have HY := Lib.hid hY
                          clear hx0 hy0 hxy hp hp1 hpx hq hq1 hqy hmem hus2 hX hY
                          go_wp2
                          go_quiet ((first | (go_at_call 42; exact quiet_call (calls_v (l01In_c _ _ _ _) (congrArg Value.bool Hx0.out))) | (go_at_call 42; exact quiet_call (calls_v (l01In_c _ _ _ _) (congrArg Value.bool Hy0.out)))))
                          go_wp2
                          go_quiet (fail)
                          go_wp2
                          go_roundw
                          case rel => exact ⟨k + 1, W, seen ++ [(x : Int)] ++ [(y : Int)], by omega, by go_num, rfl, hu2, Hus2.out, HS5.out, Hd.out.dN _⟩
                          case measure => simp [intOf]; omega
              · have hne : ((g.length : Int) != 2) = true := by simp; omega
                have HS3 : Hid (false = R) := Lib.hid (by have := HS2.out; rw [decide_eq_false hlen] at this; simpa using this)
                have Hx := Lib.hid hx
                have Hia := Lib.hid hia
                have Hlen := Lib.hid hlen
                clear hx hia hlen
                go_wp2
                go_quiet (fail)
                go_wp2
                go_ret
                exact ⟨ret_bool HS3.out, Hd.out.dN _⟩
            · obtain rfl : k = games.length := by omega
              have HS2 : Hid (true = R) := Lib.hid (by have := HS.out; rwa [List.drop_length, dayGames] at this)
              go_wp2
              go_ret
              exact ⟨ret_bool HS2.out, Hd.out⟩
    · have H1 := Lib.hid h1
      clear h1
      go_enter Try.func14, Try.ntmps14
      go_wp2_with fail
      refine (calls_v (l01In_c _ _ _ _) (congrArg Value.bool H1.out)).mono ?_
      rintro e w1 ⟨rfl, hq⟩
      go_wp2
      go_ret
      exact ⟨ret_bool (by rw [← HR.out]; simp only [dayOk, h3, decide_false, Bool.and_false, Bool.false_and]), hq⟩
end Go.Proofs.Yteigcfcabmoghaa
