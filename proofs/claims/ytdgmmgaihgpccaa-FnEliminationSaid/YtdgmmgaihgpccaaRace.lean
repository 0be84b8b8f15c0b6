/- Contracts: when a race is valid (program and reference). -/
import Derived.Test.YtdgmmgaihgpccaaScanR
namespace Go.Proofs.Ytdgmmgaihgpccaa
open Go.RowKit

def same (r g : List Int) : Bool := decide (r.getD 0 0 = g.getD 0 0) && decide (r.getD 1 0 = g.getD 1 0)
def gameOk (n : Int) (g : List Int) : Bool := decide (g.length = 3) && inR (g.getD 0 0) 0 (n - 1) && inR (g.getD 1 0) (g.getD 0 0 + 1) (n - 1) && inR (g.getD 2 0) 1 20
def gamesOk (n : Int) : List (List Int) → List (List Int) → Bool
  | _, [] => true
  | seen, g :: r => gameOk n g && (!(seen.any fun h => same h g) && gamesOk n (seen ++ [g]) r)
def raceOk (wins : List Int) (left : List (List Int)) : Bool := inR wins.length 2 6 && wins.all (fun x => inR x 0 200) && decide (left.length ≤ 15) && gamesOk wins.length [] left

theorem three_of {g : List Int} (h : g.length = 3) : ∃ x y z, g = [x, y, z] := by
  match g, h with
  | [x, y, z], _ => exact ⟨x, y, z, rfl⟩
theorem ints3 {w : World} {a : Option Addr} {x y z : Int} (h : Ints w a [x, y, z]) :
    ∃ ad, a = some ad ∧ w.cell? ad = some (.int .i64 x) ∧ w.cell? ⟨ad.block, ad.off + 1, none⟩ = some (.int .i64 y) ∧ w.cell? ⟨ad.block, ad.off + 2, none⟩ = some (.int .i64 z) := by
  obtain ⟨ad, rfl, h0⟩ := h 0 x rfl
  obtain ⟨ad1, e1, h1⟩ := h 1 y rfl
  obtain ⟨ad2, e2, h2⟩ := h 2 z rfl
  injection e1 with e1
  injection e2 with e2
  subst e1
  subst e2
  rw [Addr.add_zero'] at h0
  exact ⟨_, rfl, h0, by simpa [Addr.add] using h1, by simpa [Addr.add] using h2⟩

set_option maxHeartbeats 1000000 in
theorem raceF_c (a ga : Option Addr) (c gc : Nat) (x y z x' y' z' : Int) (p : Addr) (W : World) (h : Ints W a [x', y', z']) (hc : W.cell? p = some (.slice ga 3 gc)) (hg : Ints W ga [x, y, z]) :
    Calls Try.prog 47 #[.slice a 3 c, .pointer (some p)] W (Quiet W (.bool (same [x', y', z'] [x, y, z]))) := by
  generalize hR : same [x', y', z'] [x, y, z] = R
  have HR := Lib.hid hR
  clear hR
  obtain ⟨ad, rfl, h0, h1, h2⟩ := ints3 h
  obtain ⟨bd, rfl, g0, g1, g2⟩ := ints3 hg
  clear h hg h2 g2
  by_cases e0 : x' = x
  · have e0' : (x' == x) = true := by simpa using e0
    have HS : Hid (decide (y' = y) = R) := Lib.hid (by rw [← HR.out]; simp [same, e0])
    have E0 := Lib.hid e0
    clear e0
    by_cases e1 : y' = y
    · have e1' : (y' == y) = true := by simpa using e1
      have E1 := Lib.hid e1
      clear e1
      go_enter Try.func47, Try.ntmps47
      go_wp2
      go_quiet (fail)
      go_wp2
      go_ret
      exact ⟨ret_bool (by rw [← HS.out]; simp [E1.out]), ⟨_, rfl⟩⟩
    · have e1' : (y' == y) = false := by simpa using e1
      have E1 := Lib.hid e1
      clear e1
      go_enter Try.func47, Try.ntmps47
      go_wp2
      go_quiet (fail)
      go_wp2
      go_ret
      exact ⟨ret_bool (by rw [← HS.out]; simp [E1.out]), ⟨_, rfl⟩⟩
  · have e0' : (x' == x) = false := by simpa using e0
    have E0 := Lib.hid e0
    clear e0
    go_enter Try.func47, Try.ntmps47
    go_wp2
    go_quiet (fail)
    go_wp2
    go_ret
    exact ⟨ret_bool (by rw [← HR.out]; simp [same, E0.out]), ⟨_, rfl⟩⟩

theorem dr_below {a b c : World} (h : Dr a b) (k : Below b.heap.size b c) : Below a.heap.size a c := (h.below _).trans (k.mono (h.below 0).size)
theorem rows_take {w : World} {A : Option Addr} {xss : List (List Int)} (h : Rows w A xss) (k : Nat) : Rows w A (xss.take k) := fun j xs hj => by
  rw [List.getElem?_take] at hj
  split at hj
  · exact h j xs hj
  · cases hj
def Threes (left : List (List Int)) (k : Nat) : Prop := ∀ r ∈ left.take k, r.length = 3
theorem Threes.zero (left : List (List Int)) : Threes left 0 := fun r h => by simp at h
theorem Threes.step {left : List (List Int)} {k : Nat} {g : List Int} (h : Threes left k) (hg : left[k]? = some g) (h3 : g.length = 3) : Threes left (k + 1) := fun r hr => by
  rw [take_of hg] at hr
  rcases List.mem_append.1 hr with hr | hr
  · exact h r hr
  · rw [List.mem_singleton] at hr; rw [hr]; exact h3

set_option maxHeartbeats 2000000 in
theorem iRaceOk_c (A B : Option Addr) (c d : Nat) (wins : List Int) (left : List (List Int)) (w : World) (ha : Ints w A wins) (hb : Rows w B left) (hm : wins.length ≤ 1048576) (hm2 : left.length ≤ 1048576) (hcap : left.length ≤ d) :
    Calls Try.prog 17 #[.slice A wins.length c, .slice B left.length d] w (Gives w (.bool (raceOk wins left))) := by
  generalize hR : raceOk wins left = R
  have HR := Lib.hid hR
  clear hR
  have Ha := Lib.hid ha
  have Hb := Lib.hid hb
  clear ha hb
  cases h1 : inR wins.length 2 6
  · have H1 := Lib.hid h1
    clear h1
    go_enter Try.func17, Try.ntmps17
    go_wp2_with fail
    refine (calls_v (within_c _ _ _ _) (congrArg Value.bool H1.out)).mono ?_
    rintro e w1 ⟨rfl, hq⟩
    go_wp2
    go_ret
    exact ⟨ret_bool (by rw [← HR.out]; simp [raceOk, H1.out]), hq.below _⟩
  · obtain ⟨n1, n2⟩ := inR_true h1
    cases h2 : wins.all (fun x => inR x 0 200)
    · have H1 := Lib.hid h1
      have H2 := Lib.hid h2
      clear h1 h2
      go_enter Try.func17, Try.ntmps17
      go_wp2_with fail
      refine (calls_v (within_c _ _ _ _) (congrArg Value.bool H1.out)).mono ?_
      rintro e w1 ⟨rfl, hq⟩
      have Hq := Lib.hid hq
      clear hq
      go_wp2_with fail
      refine (gives_v (allWithin_c _ _ _ _ _ _ (Ha.out.keep Hq.out.keep) hm) (congrArg Value.bool H2.out)).mono ?_
      rintro e w2 ⟨rfl, hb2⟩
      go_wp2
      go_ret
      exact ⟨ret_bool (by rw [← HR.out]; simp only [raceOk, H1.out, H2.out]; rfl), dr_below Hq.out hb2⟩
    · by_cases h3 : left.length ≤ 15
      · have HS : Hid (gamesOk wins.length (left.take 0) (left.drop 0) = R) := Lib.hid (by rw [← HR.out]; simp only [raceOk, h1, h2, h3, decide_true, Bool.and_self, Bool.true_and]; rfl)
        have H1 := Lib.hid h1
        have H2 := Lib.hid h2
        clear h1 h2
        go_enter Try.func17, Try.ntmps17
        go_wp2_with fail
        refine (calls_v (within_c _ _ _ _) (congrArg Value.bool H1.out)).mono ?_
        rintro e w1 ⟨rfl, hq⟩
        have Hq := Lib.hid hq
        clear hq
        go_wp2_with fail
        refine (gives_v (allWithin_c _ _ _ _ _ _ (Ha.out.keep Hq.out.keep) hm) (congrArg Value.bool H2.out)).mono ?_
        rintro e w2 ⟨rfl, hb2⟩
        have Hb2 := Lib.hid (dr_below Hq.out hb2)
        clear hb2
        go_wp2
        go_loopw [23] (fun i wr => ∃ k : Nat, k ≤ left.length ∧ i = .int .i64 k ∧ gamesOk wins.length (left.take k) (left.drop k) = R ∧ Threes left k ∧ Below w.heap.size w wr) (fun i _ => left.length - (intOf i).toNat)
        case atStart => exact ⟨0, Nat.zero_le _, rfl, HS.out, Threes.zero _, Hb2.out⟩
        case round =>
          obtain ⟨k, hk, rfl, hS, hth, hd⟩ := hrel
          have HS := Lib.hid hS
          have Hth := Lib.hid hth
          have Hd := Lib.hid hd
          clear hS hth hd
          by_cases hlt : k < left.length
          · obtain ⟨g, hx⟩ := some_of hlt
            obtain ⟨bd, a, c', rfl, _, _, hca, hia⟩ := Hb.out.keep (keep_of_below Hd.out) k g hx
            have HS2 : Hid ((gameOk wins.length g && (!((left.take k).any fun h => same h g) && gamesOk wins.length (left.take (k + 1)) (left.drop (k + 1)))) = R) := Lib.hid (by have := HS.out; rw [drop_of hx, gamesOk] at this; rw [take_of hx]; exact this)
            by_cases hlen : g.length = 3
            · obtain ⟨x, y, z, rfl⟩ := three_of hlen
              obtain ⟨ad, rfl, h0, h1, h2⟩ := ints3 hia
              have hca' : wr.cell? (bd.add k) = some (.slice (some ad) 3 c') := hca
              clear hca
              have hbl : Below wr.heap.size wr (wr.alloc (.cells #[.slice (some ad) 3 c'] 22)) := (Below.refl _ _).alloc (Nat.le_refl _) _
              have hcw : (wr.alloc (.cells #[.slice (some ad) 3 c'] 22)).cell? ⟨wr.heap.size, 0, none⟩ = some (.slice (some ad) 3 c') := by simp
              have hiw := hia.keep (keep_of_below hbl)
              obtain ⟨ad2, e2, h0', h1', h2'⟩ := ints3 hiw
              obtain rfl : ad = ad2 := by injection e2
              clear e2 hia h0 h1 h2
              have Hx := Lib.hid hx
              have Hiw := Lib.hid hiw
              have Hbl := Lib.hid hbl
              clear hx hiw hbl
              by_cases hx0 : x < 0
              · have e1 : decide (x < 0) = true := by simpa using hx0
                have Hbad : Hid (gameOk wins.length [x, y, z] = false) := Lib.hid (by simp [gameOk, inR]; omega)
                go_wp2
                generalize wr.alloc (.cells #[.slice (some ad) 3 c'] 22) = wB at hcw Hbl h0' h1' h2' ⊢
                go_quiet (fail)
                go_wp2
                go_ret
                exact ⟨ret_bool (by rw [← HS2.out]; have e : gameOk wins.length [x, y, z] = false := Hbad.out; rw [e]; rfl), (Hd.out.trans (Hbl.out.mono Hd.out.size)).trans (below_drewN _ _ _)⟩
              · have e1 : decide (x < 0) = false := by simpa using hx0
                by_cases hxy : y ≤ x
                · have e2 : decide (x ≥ y) = true := by simpa using hxy
                  have Hbad : Hid (gameOk wins.length [x, y, z] = false) := Lib.hid (by simp [gameOk, inR]; omega)
                  go_wp2
                  generalize wr.alloc (.cells #[.slice (some ad) 3 c'] 22) = wB at hcw Hbl h0' h1' h2' ⊢
                  go_quiet (fail)
                  go_wp2
                  go_ret
                  exact ⟨ret_bool (by rw [← HS2.out]; have e : gameOk wins.length [x, y, z] = false := Hbad.out; rw [e]; rfl), (Hd.out.trans (Hbl.out.mono Hd.out.size)).trans (below_drewN _ _ _)⟩
                · have e2 : decide (x ≥ y) = false := by simp; omega
                  by_cases hyn : (wins.length : Int) ≤ y
                  · have e3 : decide (y ≥ (wins.length : Int)) = true := by simpa using hyn
                    have Hbad : Hid (gameOk wins.length [x, y, z] = false) := Lib.hid (by simp [gameOk, inR]; omega)
                    go_wp2
                    generalize wr.alloc (.cells #[.slice (some ad) 3 c'] 22) = wB at hcw Hbl h0' h1' h2' ⊢
                    go_quiet (fail)
                    go_wp2
                    go_ret
                    exact ⟨ret_bool (by rw [← HS2.out]; have e : gameOk wins.length [x, y, z] = false := Hbad.out; rw [e]; rfl), (Hd.out.trans (Hbl.out.mono Hd.out.size)).trans (below_drewN _ _ _)⟩
                  · have e3 : decide (y ≥ (wins.length : Int)) = false := by simp; omega
                    cases hz : inR z 1 20
                    · have Hbad : Hid (gameOk wins.length [x, y, z] = false) := Lib.hid (by simp [gameOk, hz])
                      have Hz := Lib.hid hz
                      clear hz
                      go_wp2
                      generalize wr.alloc (.cells #[.slice (some ad) 3 c'] 22) = wB at hcw Hbl h0' h1' h2' ⊢
                      go_quiet ((go_at_call 44; exact quiet_call (calls_v (within_c _ _ _ _) (congrArg Value.bool Hz.out))))
                      go_wp2
                      go_ret
                      exact ⟨ret_bool (by rw [← HS2.out]; have e : gameOk wins.length [x, y, z] = false := Hbad.out; rw [e]; rfl), (Hd.out.trans (Hbl.out.mono Hd.out.size)).trans (below_drewN _ _ _)⟩
                    · have HS3 : Hid ((!((left.take k).any fun h => same h [x, y, z]) && gamesOk wins.length (left.take (k + 1)) (left.drop (k + 1))) = R) := Lib.hid (by
                        have e : gameOk wins.length [x, y, z] = true := by simp [gameOk, hz]; simp [inR]; omega
                        have := HS2.out; rwa [e, Bool.true_and] at this)
                      have Hz := Lib.hid hz
                      clear hz
                      have Hth2 := Lib.hid (Hth.out.step Hx.out rfl)
                      have hmf : ∀ (fn : Fn) (first cap : Array Value) (w : World), (Instr.makeFunc fn first cap).run Try.prog w = .ok (.func fn first cap) w := fun _ _ _ _ => rfl
                      go_wp2
                      generalize wr.alloc (.cells #[.slice (some ad) 3 c'] 22) = wB at hcw Hbl Hiw h0' h1' h2' ⊢
                      have hrows := (Hb.out.keep (keep_of_below Hd.out)).keep (keep_of_below Hbl.out)
                      have hlk : k = (left.take k).length := by simp; omega
                      have hcon : ∀ m, Calls Try.prog 46 #[.slice (some bd) k d, .func (.func 47) #[] #[.pointer (some ⟨wr.heap.size, 0, none⟩)]] (wB.drewN m) (Quiet (wB.drewN m) (.bool ((left.take k).any fun h => same h [x, y, z]))) := fun m =>
                        containsR_c _ _ (fun h => same h [x, y, z]) _ k d (left.take k) _ (enters_of Try.func47 (by kernel_rfl) rfl)
                          (fun W a c r hr hdr hr2 => by
                            obtain ⟨x', y', z', rfl⟩ := three_of (Hth.out r hr)
                            exact raceF_c a _ c c' x y z x' y' z' _ W hr2 (hdr.keep _ _ hcw) (Hiw.out.keep hdr.keep)) (rows_take hrows k) hlk (by omega)
                      clear hrows
                      cases hany : ((left.take k).any fun h => same h [x, y, z])
                      · rw [hany] at hcon
                        have HS4 : Hid (gamesOk wins.length (left.take (k + 1)) (left.drop (k + 1)) = R) := Lib.hid (by have := HS3.out; rwa [hany] at this)
                        have Hcon := Lib.hid hcon
                        have Hany := Lib.hid hany
                        have Hlk := Lib.hid hlk
                        clear hcon hany hlk
                        go_quiet ((go_at_call 44; exact quiet_call (calls_v (within_c _ _ _ _) (congrArg Value.bool Hz.out))))
                        go_wp2_with fail
                        refine (Hcon.out _).mono ?_
                        rintro e w3 ⟨rfl, hq3⟩
                        have Hq3 := Lib.hid hq3
                        clear hq3
                        go_wp2
                        go_roundw
                        case rel => exact ⟨k + 1, by omega, by go_num, HS4.out, Hth2.out, (Hd.out.trans (Hbl.out.mono Hd.out.size)).trans ((below_drewN _ _ _).trans (Hq3.out.below _))⟩
                        case measure => simp [intOf]; omega
                      · rw [hany] at hcon
                        have HS4 : Hid (false = R) := Lib.hid (by have := HS3.out; rwa [hany] at this)
                        have Hcon := Lib.hid hcon
                        have Hany := Lib.hid hany
                        have Hlk := Lib.hid hlk
                        clear hcon hany hlk
                        go_quiet ((go_at_call 44; exact quiet_call (calls_v (within_c _ _ _ _) (congrArg Value.bool Hz.out))))
                        go_wp2_with fail
                        refine (Hcon.out _).mono ?_
                        rintro e w3 ⟨rfl, hq3⟩
                        have Hq3 := Lib.hid hq3
                        clear hq3
                        go_wp2
                        go_ret
                        exact ⟨ret_bool HS4.out, (Hd.out.trans (Hbl.out.mono Hd.out.size)).trans ((below_drewN _ _ _).trans (Hq3.out.below _))⟩
            · have hne : ((g.length : Int) != 3) = true := by simp; omega
              have hbl : Below wr.heap.size wr (wr.alloc (.cells #[.slice a g.length c'] 22)) := (Below.refl _ _).alloc (Nat.le_refl _) _
              have hcw : (wr.alloc (.cells #[.slice a g.length c'] 22)).cell? ⟨wr.heap.size, 0, none⟩ = some (.slice a g.length c') := by simp
              have Hx := Lib.hid hx
              have Hia := Lib.hid hia
              have Hbl := Lib.hid hbl
              have Hlen := Lib.hid hlen
              clear hx hia hbl hlen
              go_wp2
              generalize wr.alloc (.cells #[.slice a g.length c'] 22) = wB at hcw Hbl ⊢
              go_quiet (fail)
              go_wp2
              go_ret
              exact ⟨ret_bool (by rw [← HS2.out]; simp [gameOk, Hlen.out]), (Hd.out.trans (Hbl.out.mono Hd.out.size)).trans (below_drewN _ _ _)⟩
          · obtain rfl : k = left.length := by omega
            go_wp2
            go_ret
            exact ⟨ret_bool (by have := HS.out; rwa [List.drop_length, gamesOk] at this), Hd.out⟩
      · have H1 := Lib.hid h1
        have H2 := Lib.hid h2
        clear h1 h2
        go_enter Try.func17, Try.ntmps17
        go_wp2_with fail
        refine (calls_v (within_c _ _ _ _) (congrArg Value.bool H1.out)).mono ?_
        rintro e w1 ⟨rfl, hq⟩
        have Hq := Lib.hid hq
        clear hq
        go_wp2_with fail
        refine (gives_v (allWithin_c _ _ _ _ _ _ (Ha.out.keep Hq.out.keep) hm) (congrArg Value.bool H2.out)).mono ?_
        rintro e w2 ⟨rfl, hb2⟩
        go_wp2
        go_ret
        exact ⟨ret_bool (by rw [← HR.out]; simp only [raceOk, h3, decide_false, Bool.and_false, Bool.false_and]), dr_below Hq.out hb2⟩

set_option maxRecDepth 100000 in
set_option maxHeartbeats 4000000 in
theorem sRaceOk_c (A B : Option Addr) (c d : Nat) (wins : List Int) (left : List (List Int)) (w : World) (ha : Ints w A wins) (hb : Rows w B left) (hm : wins.length ≤ 1048576) (hm2 : left.length ≤ 1048576) (hcap : left.length ≤ d) :
    Calls Try.prog 14 #[.slice A wins.length c, .slice B left.length d] w (Quiet w (.bool (raceOk wins left))) := by
  generalize hR : raceOk wins left = R
  have HR := Lib.hid hR
  clear hR
  have Ha := Lib.hid ha
  have Hb := Lib.hid hb
  clear ha hb
  cases h1 : inR wins.length 2 6
  · have H1 := Lib.hid h1
    clear h1
    go_enter Try.func14, Try.ntmps14
    go_wp2_with fail
    refine (calls_v (l01In_c _ _ _ _) (congrArg Value.bool H1.out)).mono ?_
    rintro e w1 ⟨rfl, hq⟩
    go_wp2
    go_ret
    exact ⟨ret_bool (by rw [← HR.out]; simp [raceOk, H1.out]), hq⟩
  · obtain ⟨n1, n2⟩ := inR_true h1
    by_cases h3 : left.length ≤ 15
    · have HS : Hid ((wins.all (fun x => inR x 0 200) && gamesOk wins.length (left.take 0) (left.drop 0)) = R) := Lib.hid (by rw [← HR.out]; simp only [raceOk, h1, h3, decide_true, Bool.and_true, Bool.true_and]; rfl)
      have H1 := Lib.hid h1
      clear h1
      go_enter Try.func14, Try.ntmps14
      go_wp2_with fail
      refine (calls_v (l01In_c _ _ _ _) (congrArg Value.bool H1.out)).mono ?_
      rintro e w1 ⟨rfl, hq⟩
      have Hq := Lib.hid hq
      clear hq
      go_wp2
      go_loopw [24] (fun i wr => ∃ k : Nat, k ≤ wins.length ∧ i = .int .i64 k ∧ ((wins.drop k).all (fun x => inR x 0 200) && gamesOk wins.length (left.take 0) (left.drop 0)) = R ∧ Dr w wr) (fun i _ => wins.length - (intOf i).toNat)
      case atStart => exact ⟨0, Nat.zero_le _, rfl, HS.out, Hq.out⟩
      case round =>
        obtain ⟨k, hk, rfl, hS, hd⟩ := hrel
        have HS := Lib.hid hS
        have Hd := Lib.hid hd
        clear hS hd
        by_cases hlt : k < wins.length
        · obtain ⟨v, hv⟩ := some_of hlt
          obtain ⟨bd, rfl, hca⟩ := Ha.out.keep Hd.out.keep k v hv
          have HS2 : Hid ((inR v 0 200 && (wins.drop (k + 1)).all (fun x => inR x 0 200) && gamesOk wins.length (left.take 0) (left.drop 0)) = R) := Lib.hid (by have := HS.out; rwa [drop_of hv, List.all_cons] at this)
          have Hv := Lib.hid hv
          clear hv
          cases hc : inR v 0 200
          · have HS3 : Hid (false = R) := Lib.hid (by have := HS2.out; rwa [hc] at this)
            have Hc := Lib.hid hc
            clear hc
            go_wp2_with fail
            refine (calls_v (l01In_c _ _ _ _) (congrArg Value.bool Hc.out)).mono ?_
            rintro e w2 ⟨rfl, hq⟩
            go_wp2
            go_ret
            exact ⟨ret_bool HS3.out, Hd.out.trans hq⟩
          · have HS3 : Hid (((wins.drop (k + 1)).all (fun x => inR x 0 200) && gamesOk wins.length (left.take 0) (left.drop 0)) = R) := Lib.hid (by have := HS2.out; rwa [hc, Bool.true_and] at this)
            have Hc := Lib.hid hc
            clear hc
            go_wp2_with fail
            refine (calls_v (l01In_c _ _ _ _) (congrArg Value.bool Hc.out)).mono ?_
            rintro e w2 ⟨rfl, hq⟩
            have Hq2 := Lib.hid hq
            clear hq
            go_wp2
            go_roundw
            case rel => exact ⟨k + 1, by omega, by go_num, HS3.out, Hd.out.trans Hq2.out⟩
            case measure => simp [intOf]; omega
        · obtain rfl : k = wins.length := by omega
          have HS2 : Hid (gamesOk wins.length (left.take 0) (left.drop 0) = R) := Lib.hid (by have := HS.out; rwa [List.drop_length, List.all_nil, Bool.true_and] at this)
          go_wp2
          obtain ⟨wo, hwo⟩ : ∃ wo : World, wo = wr := ⟨_, rfl⟩
          rw [← hwo] at Hd ⊢
          clear hwo wr
          go_loopw [34] (fun i wr => ∃ k : Nat, k ≤ left.length ∧ i = .int .i64 k ∧ gamesOk wins.length (left.take k) (left.drop k) = R ∧ Threes left k ∧ Dr w wr) (fun i _ => left.length - (intOf i).toNat)
          case atStart => exact ⟨0, Nat.zero_le _, rfl, HS2.out, Threes.zero _, Hd.out⟩
          case round =>
            clear HS2
            obtain ⟨k, hk, rfl, hS, hth, hd⟩ := hrel
            have HS := Lib.hid hS
            have Hth := Lib.hid hth
            have Hd := Lib.hid hd
            clear hS hth hd
            by_cases hlt : k < left.length
            · obtain ⟨g, hx⟩ := some_of hlt
              obtain ⟨bd, a, c', rfl, _, _, hca, hia⟩ := Hb.out.keep Hd.out.keep k g hx
              have HS2 : Hid ((gameOk wins.length g && (!((left.take k).any fun h => same h g) && gamesOk wins.length (left.take (k + 1)) (left.drop (k + 1)))) = R) := Lib.hid (by have := HS.out; rw [drop_of hx, gamesOk] at this; rw [take_of hx]; exact this)
              by_cases hlen : g.length = 3
              · obtain ⟨x, y, z, rfl⟩ := three_of hlen
                obtain ⟨ad, rfl, h0, h1, h2⟩ := ints3 hia
                have hca' : wr.cell? (bd.add k) = some (.slice (some ad) 3 c') := hca
                have wn : IntKind.i64.wrap ((wins.length : Int) - 1) = (wins.length : Int) - 1 := IntWalk.i64_in _ (by omega)
                clear hca
                have Hx := Lib.hid hx
                have Hia := Lib.hid hia
                clear hx hia
                cases hx0 : inR x 0 ((wins.length : Int) - 1)
                · have Hbad : Hid (gameOk wins.length [x, y, z] = false) := Lib.hid (by simp [gameOk, hx0])
                  have Hx0 := Lib.hid hx0
                  clear hx0
                  go_wp2
                  go_quiet ((go_at_call 43; exact quiet_call (calls_v (l01In_c _ _ _ _) (congrArg Value.bool Hx0.out))))
                  go_wp2
                  go_ret
                  exact ⟨ret_bool (by rw [← HS2.out, Hbad.out]; rfl), Hd.out.dN _⟩
                · obtain ⟨x1, x2⟩ := inR_true hx0
                  have wx : IntKind.i64.wrap (x + 1) = x + 1 := IntWalk.i64_in _ (by omega)
                  cases hxy : inR y (x + 1) ((wins.length : Int) - 1)
                  · have Hbad : Hid (gameOk wins.length [x, y, z] = false) := Lib.hid (by simp [gameOk, hxy])
                    have Hx0 := Lib.hid hx0
                    have Hxy := Lib.hid hxy
                    clear hx0 hxy
                    go_wp2
                    go_quiet ((first | (go_at_call 43; exact quiet_call (calls_v (l01In_c _ _ _ _) (congrArg Value.bool Hx0.out))) | (go_at_call 43; exact quiet_call (calls_v (l01In_c _ _ _ _) (congrArg Value.bool Hxy.out)))))
                    go_wp2
                    go_ret
                    exact ⟨ret_bool (by rw [← HS2.out, Hbad.out]; rfl), Hd.out.dN _⟩
                  · cases hz : inR z 1 20
                    · have Hbad : Hid (gameOk wins.length [x, y, z] = false) := Lib.hid (by simp [gameOk, hz])
                      have Hx0 := Lib.hid hx0
                      have Hxy := Lib.hid hxy
                      have Hz := Lib.hid hz
                      clear hx0 hxy hz
                      go_wp2
                      go_quiet ((first | (go_at_call 43; exact quiet_call (calls_v (l01In_c _ _ _ _) (congrArg Value.bool Hx0.out))) | (go_at_call 43; exact quiet_call (calls_v (l01In_c _ _ _ _) (congrArg Value.bool Hxy.out))) | (go_at_call 43; exact quiet_call (calls_v (l01In_c _ _ _ _) (congrArg Value.bool Hz.out)))))
                      go_wp2
                      go_ret
                      exact ⟨ret_bool (by rw [← HS2.out, Hbad.out]; rfl), Hd.out.dN _⟩
                    · have HS3 : Hid ((!((left.take k).any fun h => same h [x, y, z]) && gamesOk wins.length (left.take (k + 1)) (left.drop (k + 1))) = R) := Lib.hid (by
                        have e : gameOk wins.length [x, y, z] = true := by simp [gameOk, hz, hx0, hxy]
                        have := HS2.out; rwa [e, Bool.true_and] at this)
                      have Hx0 := Lib.hid hx0
                      have Hxy := Lib.hid hxy
                      have Hz := Lib.hid hz
                      clear hx0 hxy hz
                      have Hth2 := Lib.hid (Hth.out.step Hx.out rfl)
                      go_wp2
                      go_quiet ((first | (go_at_call 43; exact quiet_call (calls_v (l01In_c _ _ _ _) (congrArg Value.bool Hx0.out))) | (go_at_call 43; exact quiet_call (calls_v (l01In_c _ _ _ _) (congrArg Value.bool Hxy.out))) | (go_at_call 43; exact quiet_call (calls_v (l01In_c _ _ _ _) (congrArg Value.bool Hz.out)))))
                      go_wp2
                      clear hca'
                      obtain ⟨wo, hwo⟩ : ∃ wo : World, wo = wr := ⟨_, rfl⟩
                      rw [← hwo] at Hd h0 h1 h2 Hia ⊢
                      clear hwo wr
                      go_loopw [75] (fun i wr => ∃ j : Nat, j ≤ k ∧ i = .int .i64 j ∧ (!(((left.take k).drop j).any fun h => same h [x, y, z]) && gamesOk wins.length (left.take (k + 1)) (left.drop (k + 1))) = R ∧ Dr wo wr) (fun i _ => k - (intOf i).toNat)
                      case atStart => exact ⟨0, Nat.zero_le _, rfl, HS3.out, ⟨_, rfl⟩⟩
                      case round =>
                        obtain ⟨j, hj, rfl, hS4, hd2⟩ := hrel
                        have Htr := Lib.hid (Hd.out.trans hd2)
                        have g0 := hd2.keep _ _ h0
                        have g1 := hd2.keep _ _ h1
                        have HS4 := Lib.hid hS4
                        have Hd2 := Lib.hid hd2
                        clear hS4 hd2
                        by_cases hlt2 : j < k
                        · obtain ⟨r, hr⟩ := some_of (l := left) (k := j) (by omega)
                          have hr' : (left.take k)[j]? = some r := by rw [List.getElem?_take, if_pos hlt2]; exact hr
                          obtain ⟨bd', b, c2, eb, _, _, hcb, hib⟩ := Hb.out.keep Htr.out.keep j r hr
                          obtain rfl : bd = bd' := by injection eb
                          obtain ⟨x', y', z', rfl⟩ := three_of (Hth.out r (List.mem_of_getElem? hr'))
                          obtain ⟨ad', rfl, k0, k1, k2⟩ := ints3 hib
                          have hcb' : wr.cell? (bd.add j) = some (.slice (some ad') 3 c2) := hcb
                          have HS5 : Hid ((!(same [x', y', z'] [x, y, z] || ((left.take k).drop (j + 1)).any fun h => same h [x, y, z]) && gamesOk wins.length (left.take (k + 1)) (left.drop (k + 1))) = R) := Lib.hid (by have := HS4.out; rwa [drop_of hr', List.any_cons] at this)
                          have Hr := Lib.hid hr
                          have Hr' := Lib.hid hr'
                          clear hr hr'
                          clear hcb hib eb k2
                          by_cases e0 : x' = x
                          · have e0' : (x' == x) = true := by simpa using e0
                            by_cases e1 : y' = y
                            · have e1' : (y' == y) = true := by simpa using e1
                              have HS6 : Hid (false = R) := Lib.hid (by rw [← HS5.out]; simp [same, e0, e1])
                              have E0 := Lib.hid e0
                              have E1 := Lib.hid e1
                              clear e0 e1
                              go_wp2
                              go_quiet (fail)
                              go_wp2
                              go_ret
                              exact ⟨ret_bool HS6.out, Htr.out.dN _⟩
                            · have e1' : (y' == y) = false := by simpa using e1
                              have HS6 : Hid ((!(((left.take k).drop (j + 1)).any fun h => same h [x, y, z]) && gamesOk wins.length (left.take (k + 1)) (left.drop (k + 1))) = R) := Lib.hid (by have := HS5.out; rwa [show same [x', y', z'] [x, y, z] = false from by simp [same, e1], Bool.false_or] at this)
                              have E0 := Lib.hid e0
                              have E1 := Lib.hid e1
                              clear e0 e1
                              go_wp2
                              go_quiet (fail)
                              go_wp2
                              go_roundw
                              case rel => exact ⟨j + 1, by omega, by go_num, HS6.out, Hd2.out.dN _⟩
                              case measure => simp [intOf]; omega
                          · have e0' : (x' == x) = false := by simpa using e0
                            have HS6 : Hid ((!(((left.take k).drop (j + 1)).any fun h => same h [x, y, z]) && gamesOk wins.length (left.take (k + 1)) (left.drop (k + 1))) = R) := Lib.hid (by have := HS5.out; rwa [show same [x', y', z'] [x, y, z] = false from by simp [same, e0], Bool.false_or] at this)
                            have E0 := Lib.hid e0
                            clear e0
                            go_wp2
                            go_quiet (fail)
                            go_wp2
                            go_roundw
                            case rel => exact ⟨j + 1, by omega, by go_num, HS6.out, Hd2.out.dN _⟩
                            case measure => simp [intOf]; omega
                        · obtain rfl : j = k := by omega
                          have HS5 : Hid (gamesOk wins.length (left.take (j + 1)) (left.drop (j + 1)) = R) := Lib.hid (by have := HS4.out; rwa [List.drop_of_length_le (by simp; omega), List.any_nil, Bool.not_false, Bool.true_and] at this)
                          go_wp2
                          go_roundw
                          case rel => exact ⟨j + 1, by omega, by go_num, HS5.out, Hth2.out, Htr.out⟩
                          case measure => simp [intOf]; omega
              · have hne : ((g.length : Int) != 3) = true := by simp; omega
                have Hbad : Hid (gameOk wins.length g = false) := Lib.hid (by simp [gameOk, hlen])
                have Hx := Lib.hid hx
                have Hia := Lib.hid hia
                have Hlen := Lib.hid hlen
                clear hx hia hlen
                go_wp2
                go_quiet (fail)
                go_wp2
                go_ret
                exact ⟨ret_bool (by rw [← HS2.out, Hbad.out]; rfl), Hd.out.dN _⟩
            · obtain rfl : k = left.length := by omega
              go_wp2
              go_ret
              exact ⟨ret_bool (by have := HS.out; rwa [List.drop_length, gamesOk] at this), Hd.out⟩
    · have H1 := Lib.hid h1
      clear h1
      go_enter Try.func14, Try.ntmps14
      go_wp2_with fail
      refine (calls_v (l01In_c _ _ _ _) (congrArg Value.bool H1.out)).mono ?_
      rintro e w1 ⟨rfl, hq⟩
      go_wp2
      go_ret
      exact ⟨ret_bool (by rw [← HR.out]; simp only [raceOk, h3, decide_false, Bool.and_false, Bool.false_and]), hq⟩
end Go.Proofs.Ytdgmmgaihgpccaa
