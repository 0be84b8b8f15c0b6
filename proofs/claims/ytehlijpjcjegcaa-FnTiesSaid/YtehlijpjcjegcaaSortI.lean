/- Contract: slices.SortStableFunc over a row of the call's own that holds 0, 1, 2 .., at most 20 of them: each is set in from the right. -/
import Derived.Test.YtehlijpjcjegcaaSortP
import Derived.Test.YtehlijpjcjegcaaPast
import Derived.Test.YtehlijpjcjegcaaHelp
import Derived.Test.YtehlijpjcjegcaaBase3
import Derived.Shelf.Abstract
import Derived.BigRegion
namespace Go.Proofs.Ytehlijpjcjegcaa
open Go.RowKit
set_option linter.unusedVariables false
set_option linter.unusedSimpArgs false

def nums (l : List Nat) : List Int := l.map fun a : Nat => (a : Int)
def insRow (lt : Nat → Nat → Bool) (n i j : Nat) : List Nat := insK (insAll lt i) j i ++ (List.range n).drop (i + 1)
theorem nums_at {l : List Nat} {k x : Nat} (h : l[k]? = some x) : (nums l)[k]? = some (x : Int) := map_some h
theorem nums_set (l : List Nat) (k x : Nat) : (nums l).set k (x : Int) = nums (l.set k x) := by rw [nums, nums, List.map_set]
section
variable {lt : Nat → Nat → Bool} {n i j : Nat}
theorem ins_start (hi : i < n) : insRow lt n i i = insAll lt i ++ (List.range n).drop i := by
  have h1 : (List.range n)[i]? = some i := List.getElem?_range hi
  rw [insRow, insK, drop_of h1, List.take_of_length_le (by rw [insAll_len]; exact Nat.le_refl _), List.drop_eq_nil_of_le (by rw [insAll_len]; exact Nat.le_refl _), List.append_assoc]; rfl
theorem ins_here (hj : j ≤ i) : (insRow lt n i j)[j]? = some i := by
  have hl : ((insAll lt i).take j).length = j := by rw [List.length_take, insAll_len]; omega
  rw [insRow, insK, List.append_assoc, List.getElem?_append_right (by omega), hl, Nat.sub_self]; rfl
theorem ins_before (hj : j < i) : (insRow lt n i (j + 1))[j]? = some ((insAll lt i).getD j 0) := by
  have hl : ((insAll lt i).take (j + 1)).length = j + 1 := by rw [List.length_take, insAll_len]; omega
  rw [insRow, insK, List.append_assoc, List.getElem?_append_left (by omega), List.getElem?_take, if_pos (by omega), List.getD_eq_getElem?_getD]
  rw [List.getElem?_eq_getElem (by rw [insAll_len]; exact hj)]; rfl
theorem ins_swap (hj : j < i) : ((insRow lt n i (j + 1)).set (j + 1) ((insAll lt i).getD j 0)).set j i = insRow lt n i j := by
  obtain ⟨x, hx⟩ := some_of (l := insAll lt i) (k := j) (by rw [insAll_len]; exact hj)
  have hg : (insAll lt i).getD j 0 = x := by rw [List.getD_eq_getElem?_getD, hx]; rfl
  have hl : ((insAll lt i).take j).length = j := by rw [List.length_take, insAll_len]; omega
  rw [hg, insRow, insRow, insK, insK, take_of hx, drop_of hx]
  simp only [List.append_assoc, List.cons_append, List.nil_append]
  rw [List.set_append_right _ _ (by omega), hl, show j + 1 - j = 1 from by omega, List.set_cons_succ, List.set_cons_zero]
  rw [List.set_append_right _ _ (by omega), hl, Nat.sub_self, List.set_cons_zero]
theorem ins_len (hi : i < n) (hj : j ≤ i) : (insRow lt n i j).length = n := by
  rw [insRow, List.length_append, insK_len _ _ _ (by rw [insAll_len]; exact hj), insAll_len, List.length_drop, List.length_range]; omega
theorem ins_end {K : Nat} (hK : stay (fun b => lt b i) (insAll lt i) (insAll lt i).length = K) : insRow lt n i K = insAll lt (i + 1) ++ (List.range n).drop (i + 1) := by
  rw [insRow, insAll, ins, hK]
end

/-- A comparison: it gives cf, and leaves what it found, whatever the row holds. -/
def CmpG (cl : Nat) (lb : Array Value) (cf : Nat → Nat → Int) (n g : Nat) (w : World) : Prop :=
  ∀ (W : World) (a b : Nat), a < n → b < n → Only g (g + 1) w W → Calls Try.prog cl (#[.int .i64 (a : Int), .int .i64 (b : Int)] ++ lb) W (Gives W (.int .i64 (cf a b)))

set_option maxHeartbeats 4000000 in
theorem insort_c (cl : Nat) (lb : Array Value) (cf : Nat → Nat → Int) (lt : Nat → Nat → Bool) (n g c : Nat) (w : World) (eg : ∀ args w, (callFunc cl args).run Try.prog w = .ok (.enter cl args) w)
    (hlt : ∀ a b, a < n → b < n → decide (cf a b < 0) = lt b a) (hcmp : CmpG cl lb cf n g w) (hgz : g < w.heap.size)
    (ho : Own 3 g (g + 1) w (some ⟨g, 0, none⟩) c ((nums (List.range n)).map (.int .i64))) (hn1 : 1 ≤ n) (hn : n ≤ 20) :
    Calls Try.prog 101 #[.slice (some ⟨g, 0, none⟩) n c, .int .i64 0, .int .i64 (n : Int), .func (.func cl) #[] lb] w
      fun e w' => e = .returned (.tuple #[]) ∧ Own 3 g (g + 1) w' (some ⟨g, 0, none⟩) c ((nums (insAll lt n)).map (.int .i64)) ∧ Only g (g + 1) w w' := by
  have hcap : n ≤ c := by have := ho.1; simpa [nums] using this
  have hone : insAll lt 1 ++ (List.range n).drop 1 = List.range n := by
    have h1 : (List.range n)[0]? = some 0 := List.getElem?_range (by omega)
    have h2 := drop_of h1
    rw [List.drop_zero] at h2
    rw [h2]; rfl
  have Hlt := Lib.hid hlt
  have Hcmp := Lib.hid hcmp
  have Ho := Lib.hid ho
  have Hone := Lib.hid hone
  clear hlt hcmp ho hone
  go_enter Try.func101, Try.ntmps101
  go_wp2
  go_loopw [8] (fun s wr => ∃ i : Nat, 1 ≤ i ∧ i ≤ n ∧ s = .int .i64 i ∧ Own 3 g (g + 1) wr (some ⟨g, 0, none⟩) c ((nums (insAll lt i ++ (List.range n).drop i)).map (.int .i64)) ∧ Only g (g + 1) w wr) (fun s _ => n - (intOf s).toNat)
  case atStart => exact ⟨1, Nat.le_refl _, hn1, rfl, by rw [Hone.out]; exact Ho.out, Only.refl _ _ _⟩
  case round =>
    obtain ⟨i, hi1, hi, rfl, ho', hw⟩ := hrel
    have Hw := Lib.hid hw
    clear hw
    by_cases hlt2 : i < n
    · have hii : (i : Int) < (n : Int) := by omega
      rw [← ins_start hlt2] at ho'
      obtain ⟨wo, hwo⟩ : ∃ wo : World, wo = wr := ⟨_, rfl⟩
      rw [← hwo] at ho' Hw ⊢
      have Ho' := Lib.hid ho'
      clear ho'
      clear hwo wr
      obtain ⟨K, hK⟩ : ∃ K, stay (fun b => lt b i) (insAll lt i) (insAll lt i).length = K := ⟨_, rfl⟩
      have hK2 : stay (fun b => lt b i) (insAll lt i) i = K := by rw [insAll_len] at hK; exact hK
      have HK := Lib.hid hK
      have HK2 := Lib.hid hK2
      clear hK hK2
      go_wp2
      go_loopw [9] (fun s wr => ∃ j : Nat, j ≤ i ∧ s = .int .i64 j ∧ stay (fun b => lt b i) (insAll lt i) j = K ∧ Own 3 g (g + 1) wr (some ⟨g, 0, none⟩) c ((nums (insRow lt n i j)).map (.int .i64)) ∧ Only g (g + 1) w wr) (fun s _ => (intOf s).toNat)
      case atStart => exact ⟨i, Nat.le_refl _, rfl, HK2.out, Ho'.out, Hw.out⟩
      case round =>
        obtain ⟨j, hj, rfl, hS, ho3, hw3⟩ := hrel
        cases j with
        | zero =>
          have hK0 : (0 : Nat) = K := hS
          have Ho3 := Lib.hid ho3
          have Hw3 := Lib.hid hw3
          have HK0 := Lib.hid hK0
          have HS := Lib.hid hS
          clear ho3 hw3 hK0 hS
          go_wp2
          refine wp_region_past (by kernel_rfl) (by kernel_rfl) ?_
          repeat (go_big_quiet_step ((fail)))
          refine wpQuiet_nil ?_
          intro wx hwx
          obtain ⟨⟨wy, hbx⟩, hw⟩ := hwx
          change wx = wy at hw
          subst hw
          have hO : Own 3 g (g + 1) wx (some ⟨g, 0, none⟩) c ((nums (insAll lt (i + 1) ++ (List.range n).drop (i + 1))).map (.int .i64)) := by
            rw [← ins_end HK.out, ← HK0.out]; exact Ho3.out.below (hbx.mono (Nat.le_trans hgz Hw3.out.size))
          have hW := Hw3.out.trans (only_of_below hbx (Nat.le_refl _))
          have HO := Lib.hid hO
          have HW := Lib.hid hW
          clear hO hW
          clear hbx
          go_wp2
          go_roundw
          case rel => exact ⟨i + 1, by omega, by omega, by go_num, HO.out, HW.out⟩
          case measure => simp [intOf]; omega
        | succ j =>
          obtain ⟨x, hx⟩ := some_of (l := insAll lt i) (k := j) (by rw [insAll_len]; omega)
          have hxn : x < n := by have := insAll_lt (List.mem_of_getElem? hx); omega
          have hg : (insAll lt i).getD j 0 = x := by rw [List.getD_eq_getElem?_getD, hx]; rfl
          have hb := ins_before (lt := lt) (n := n) (i := i) (j := j) (by omega)
          have hh := ins_here (lt := lt) (n := n) (i := i) (j := j + 1) hj
          rw [hg] at hb
          obtain ⟨g1, e1, _, _, c0, f0⟩ := ownr ho3 (nums_at hb)
          obtain rfl : g = g1 := by injection e1 with e1; injection e1
          obtain ⟨g2, e2, _, _, c1, f1⟩ := ownr ho3 (nums_at hh)
          obtain rfl : g = g2 := by injection e2 with e2; injection e2
          clear e1 e2
          have hxl := Hlt.out i x hlt2 hxn
          have hcc := fun (y : Past wr) => Hcmp.out y.now i x hlt2 hxn (hw3.trans (only_of_below y.below (Nat.le_refl _)))
          obtain ⟨v, hv⟩ : ∃ v, cf i x = v := ⟨_, rfl⟩
          rw [hv] at hxl
          simp only [hv] at hcc
          have p0 : ∀ y : Past wr, y.now.cell? ⟨g, j, none⟩ = some (.int .i64 (x : Int)) := Past.cell c0
          have p1 : ∀ y : Past wr, y.now.cell? ⟨g, j + 1, none⟩ = some (.int .i64 (i : Int)) := Past.cell c1
          have hjc : j + 1 < n := by omega
          have wk : IntKind.i64.wrap ((j : Int) + 1 - 1) = (j : Int) := by rw [IntWalk.i64_in _ (by omega)]; omega
          have hd : decide ((0 : Int) < (j : Int) + 1) = true := by rw [decide_eq_true_iff]; omega
          have Hcc := Lib.hid hcc
          have Hv := Lib.hid hv
          have Hx := Lib.hid hx
          have Hg := Lib.hid hg
          have Hb := Lib.hid hb
          have Hh := Lib.hid hh
          have HS := Lib.hid hS
          have Ho3 := Lib.hid ho3
          have Hw3 := Lib.hid hw3
          have Hxl := Lib.hid hxl
          clear hcc hv hx hg hb hh hS ho3 hw3 hxl
          clear c0 c1
          go_wp2
          refine wp_region_past (by kernel_rfl) (by kernel_rfl) ?_
          repeat (go_big_quiet_step ((exact past_gives (Hcc.out _))))
          refine wpQuiet_nil ?_
          intro wx hwx
          obtain ⟨⟨wy, hbx⟩, hw⟩ := hwx
          change wx = wy at hw
          subst hw
          have hgr : g + 1 ≤ wr.heap.size := Nat.le_trans hgz Hw3.out.size
          have hox := Ho3.out.below (hbx.mono hgr)
          have hwx := Hw3.out.trans (only_of_below hbx (Nat.le_refl _))
          obtain ⟨g1, e1, _, _, c0, f0'⟩ := ownr hox (nums_at Hb.out)
          obtain rfl : g = g1 := by injection e1 with e1; injection e1
          obtain ⟨g2, e2, _, _, c1, f1'⟩ := ownr hox (nums_at Hh.out)
          obtain rfl : g = g2 := by injection e2 with e2; injection e2
          clear e1 e2 f0 f1 p0 p1
          by_cases hneg : v < 0
          · have hd2 : decide (v < 0) = true := by simpa using hneg
            have hl2 : lt x i = true := by rw [← Hxl.out]; exact hd2
            have hS2 : stay (fun b => lt b i) (insAll lt i) j = K := by rw [← HS.out, stay_hit (by rw [Hg.out]; exact hl2)]
            have hO : Own 3 g (g + 1) ((wx.setCell ⟨g, j + 1, none⟩ (.int .i64 (x : Int))).setCell ⟨g, j, none⟩ (.int .i64 (i : Int))) (some ⟨g, 0, none⟩) c ((nums (insRow lt n i j)).map (.int .i64)) := by
              have h := (hox.seti (j + 1) (x : Int)).seti j (i : Int)
              rw [nums_set, nums_set] at h
              have h2 := ins_swap (lt := lt) (n := n) (i := i) (j := j) (by omega)
              rw [Hg.out] at h2
              rw [h2] at h; exact h
            have hW : Only g (g + 1) w ((wx.setCell ⟨g, j + 1, none⟩ (.int .i64 (x : Int))).setCell ⟨g, j, none⟩ (.int .i64 (i : Int))) := (hwx.setCell (Nat.le_refl _) (by omega) _).setCell (Nat.le_refl _) (by omega) _
            have c2 : (wx.setCell ⟨g, j + 1, none⟩ (.int .i64 (x : Int))).cell? ⟨g, j, none⟩ = some (.int .i64 (x : Int)) := (World.cell?_setCell_other _ ⟨g, j + 1, none⟩ ⟨g, j, none⟩ _ (by simp)).trans c0
            have HO := Lib.hid hO
            have HW := Lib.hid hW
            have HS2 := Lib.hid hS2
            have Hox := Lib.hid hox
            have Hwx := Lib.hid hwx
            have Hbx := Lib.hid hbx
            have Hl2 := Lib.hid hl2
            clear hO hW hS2 hox hwx hbx hl2
            go_wp2
            go_region
            all_goals
              go_wp2
              go_roundw
              case rel => exact ⟨j, by omega, rfl, HS2.out, HO.out, HW.out.drewN 1⟩
              case measure => simp [intOf]
          · have hd2 : decide (v < 0) = false := by simpa using hneg
            have hl2 : lt x i = false := by rw [← Hxl.out]; exact hd2
            have hK3 : j + 1 = K := by rw [← HS.out, stay_stop (by rw [Hg.out]; exact hl2)]
            have hO : Own 3 g (g + 1) wx (some ⟨g, 0, none⟩) c ((nums (insAll lt (i + 1) ++ (List.range n).drop (i + 1))).map (.int .i64)) := by
              rw [← ins_end HK.out, ← hK3]; exact hox
            have HO := Lib.hid hO
            have Hwx := Lib.hid hwx
            have HK3 := Lib.hid hK3
            have Hox := Lib.hid hox
            have Hbx := Lib.hid hbx
            have Hl2 := Lib.hid hl2
            clear hO hwx hK3 hox hbx hl2
            clear c0 c1
            go_wp2
            go_roundw
            case rel => exact ⟨i + 1, by omega, by omega, by go_num, HO.out, Hwx.out⟩
            case measure => simp [intOf]; omega
    · obtain rfl : i = n := by omega
      have hO := ho'
      rw [List.drop_eq_nil_of_le (by simp), List.append_nil] at hO
      have HO := Lib.hid hO
      have Ho' := Lib.hid ho'
      clear hO ho'
      go_wp2
      go_end0
      exact ⟨rfl, HO.out, Hw.out⟩

set_option maxHeartbeats 1000000 in
theorem stable_c (f : Value) (n g c : Nat) (w : World) (Q : Ending → World → Prop) (hn : n ≤ 19)
    (hc : Calls Try.prog 101 #[.slice (some ⟨g, 0, none⟩) n c, .int .i64 0, .int .i64 (n : Int), f] w fun e w' => e = .returned (.tuple #[]) ∧ Q e w') :
    Calls Try.prog 99 #[.slice (some ⟨g, 0, none⟩) n c, .int .i64 (n : Int), f] w fun e w' => e = .returned (.tuple #[]) ∧ Q e w' := by
  have h20 : ¬ (20 : Int) ≤ (n : Int) := by omega
  have h21 : ¬ (20 : Int) < (n : Int) := by omega
  have Hc := Lib.hid hc
  clear hc
  go_enter Try.func99, Try.ntmps99
  go_wp2
  go_loop [7, 8] (fun a b => a = .int .i64 0 ∧ b = .int .i64 20) (fun _ _ => 0)
  case atStart => exact ⟨rfl, rfl⟩
  case round =>
    obtain ⟨rfl, rfl⟩ := hrel
    go_wp2_with (go_at_call 101; refine Hc.out.mono ?_; rintro e w1 ⟨rfl, hQ⟩)
    go_loop [6, 7, 8] (fun z a b => z = .int .i64 20 ∧ a = .int .i64 0 ∧ b = .int .i64 20) (fun _ _ _ => 0)
    case atStart => exact ⟨rfl, rfl, rfl⟩
    case round =>
      obtain ⟨rfl, rfl, rfl⟩ := hrel
      go_wp2
      go_end0
      exact ⟨rfl, hQ⟩
set_option maxHeartbeats 1000000 in
theorem sortStable_c (cl : Nat) (lb : Array Value) (cf : Nat → Nat → Int) (lt : Nat → Nat → Bool) (n g c : Nat) (w : World) (eg : ∀ args w, (callFunc cl args).run Try.prog w = .ok (.enter cl args) w)
    (hlt : ∀ a b, a < n → b < n → decide (cf a b < 0) = lt b a) (hcmp : CmpG cl lb cf n g w) (hgz : g < w.heap.size)
    (ho : Own 3 g (g + 1) w (some ⟨g, 0, none⟩) c ((nums (List.range n)).map (.int .i64))) (hn1 : 1 ≤ n) (hn : n ≤ 19) :
    Calls Try.prog 89 #[.slice (some ⟨g, 0, none⟩) n c, .func (.func cl) #[] lb] w
      fun e w' => e = .returned (.tuple #[]) ∧ Own 3 g (g + 1) w' (some ⟨g, 0, none⟩) c ((nums (insAll lt n)).map (.int .i64)) ∧ Only g (g + 1) w w' := by
  have hc := stable_c (.func (.func cl) #[] lb) n g c w _ hn (insort_c cl lb cf lt n g c w eg hlt hcmp hgz ho hn1 (by omega))
  have Hc := Lib.hid hc
  have Hlt := Lib.hid hlt
  have Hcmp := Lib.hid hcmp
  have Ho := Lib.hid ho
  have Eg := Lib.hid eg
  clear hc hlt hcmp ho eg
  go_enter Try.func89, Try.ntmps89
  go_wp2_with (go_at_call 99; refine Hc.out.mono ?_; rintro e w1 ⟨rfl, hO, hW⟩)
  go_end0
  exact ⟨rfl, hO, hW⟩

/-- 0, 1, 2 .. in a new row. -/
theorem indices_c (n : Nat) (w : World) (hn : n ≤ 1000) : Calls Try.prog 88 #[.int .i64 (n : Int)] w fun e w' => e = .returned (.slice (some ⟨w.heap.size, 0, none⟩) n n) ∧ Own 3 w.heap.size (w.heap.size + 1) w' (some ⟨w.heap.size, 0, none⟩) n ((nums (List.range n)).map (.int .i64)) ∧ Below w.heap.size w w' ∧ w.heap.size < w'.heap.size := by
  have hmk := fun W => run_make_row' (P := Try.prog) 33 3 (.int .i64 0) 8 Try.underlying33 info_int rfl .i64 .i64 n (by omega) (by omega) W
  go_enter Try.func88, Try.ntmps88
  go_wp2
  go_loopw [9] (fun i wr => ∃ k : Nat, k ≤ n ∧ i = .int .i64 k ∧ Own 3 w.heap.size (w.heap.size + 1) wr (some ⟨w.heap.size, 0, none⟩) n (((nums (List.range n)).map (Value.int .i64)).take k ++ (List.replicate n (.int .i64 0)).drop k) ∧ Below w.heap.size w wr ∧ w.heap.size < wr.heap.size) (fun i _ => n - (intOf i).toNat)
  case atStart => exact ⟨0, Nat.zero_le _, rfl, own_made _ _ _ _ _ (Nat.le_refl _) (by unfold maxLen; omega), (Below.refl _ _).alloc (Nat.le_refl _) _, by simp⟩
  case round =>
    obtain ⟨k, hk, rfl, hown, hb, hz⟩ := hrel
    have Hown := Lib.hid hown
    have Hb := Lib.hid hb
    clear hown hb
    by_cases hlt : k < n
    · obtain ⟨g, hg, _, _, hcb, hfb⟩ := Hown.out.at_ (k := k) (u := .int .i64 0) (by rw [fill_at (by simp [nums]; omega)]; simp [hlt])
      obtain rfl : w.heap.size = g := by injection hg with hg; injection hg
      clear hg
      have hat : ((nums (List.range n)).map (Value.int .i64))[k]? = some (.int .i64 (k : Int)) := map_some (nums_at (List.getElem?_range hlt))
      have Hat := Lib.hid hat
      clear hat
      go_wp2
      go_roundw
      case rel => exact ⟨k + 1, by omega, by go_num, by rw [← fill_step Hat.out (by simpa using hlt)]; exact Hown.out.set_ k _, Hb.out.setCell (Nat.le_refl _) _, by simpa [World.setCell] using hz⟩
      case measure => simp [intOf]; omega
    · obtain rfl : k = n := by omega
      have hO := Hown.out
      rw [List.take_of_length_le (by simp [nums]), List.drop_eq_nil_of_le (by simp), List.append_nil] at hO
      have HO := Lib.hid hO
      clear hO
      go_wp2
      go_ret
      exact ⟨rfl, HO.out, Hb.out, hz⟩
end Go.Proofs.Ytehlijpjcjegcaa
