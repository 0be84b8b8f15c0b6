/- Results of games and leagues in memory, and the contracts of the laws' helpers on them. -/
import Derived.Test.YtehlijpjcjegcaaBase3
import Derived.Test.YtehlijpjcjegcaaPast
namespace Go.Proofs.Ytehlijpjcjegcaa
set_option linter.unusedSimpArgs false
set_option linter.unusedVariables false
open Go.RowKit

structure Res where
  h : Int
  a : Int
  g : Int
  t : Int
  deriving DecidableEq
def Res.val (r : Res) : Value := .agg #[.int .i64 r.h, .int .i64 r.a, .int .i64 r.g, .int .i64 r.t]
def Res.cs (r : Res) : List Value := [.int .i64 r.h, .int .i64 r.a, .int .i64 r.g, .int .i64 r.t]
/-- Four cells that lie behind each other. -/
def Four (w : World) (p : Addr) (r : Res) : Prop :=
  w.cell? p = some (.int .i64 r.h) ∧ w.cell? ⟨p.block, p.off + 1, none⟩ = some (.int .i64 r.a) ∧ w.cell? ⟨p.block, p.off + 2, none⟩ = some (.int .i64 r.g) ∧ w.cell? ⟨p.block, p.off + 3, none⟩ = some (.int .i64 r.t)
theorem Four.keep {w w' : World} {p : Addr} {r : Res} (h : Four w p r) (k : Keep w w') : Four w' p r := ⟨k _ _ h.1, k _ _ h.2.1, k _ _ h.2.2.1, k _ _ h.2.2.2⟩
def Games (w : World) (A : Option Addr) (rs : List Res) : Prop := ∀ k r, rs[k]? = some r → ∃ ad, A = some ad ∧ Four w (ad.add (k * 4)) r
theorem Games.keep {w w' : World} {A : Option Addr} {rs : List Res} (h : Games w A rs) (k : Keep w w') : Games w' A rs := fun i r hr => by
  obtain ⟨ad, e, hf⟩ := h i r hr
  exact ⟨ad, e, hf.keep k⟩
theorem Games.nil (w : World) (A : Option Addr) : Games w A [] := fun _ _ h => by simp at h
def flat : List Res → List Value
  | [] => []
  | r :: t => .int .i64 r.h :: .int .i64 r.a :: .int .i64 r.g :: .int .i64 r.t :: flat t
theorem flat_length : ∀ rs : List Res, (flat rs).length = rs.length * 4
  | [] => rfl
  | r :: t => by simp only [flat, List.length_cons, flat_length t]; omega
theorem flat_at : ∀ (rs : List Res) (k : Nat) (r : Res), rs[k]? = some r → (flat rs)[k * 4]? = some (.int .i64 r.h) ∧ (flat rs)[k * 4 + 1]? = some (.int .i64 r.a) ∧ (flat rs)[k * 4 + 2]? = some (.int .i64 r.g) ∧ (flat rs)[k * 4 + 3]? = some (.int .i64 r.t)
  | [], _, _, h => by simp at h
  | r :: t, 0, _, h => by simp at h; subst h; exact ⟨rfl, rfl, rfl, rfl⟩
  | r :: t, k + 1, s, h => by
    have := flat_at t k s (by simpa using h)
    rw [show (k + 1) * 4 = k * 4 + 4 from by omega, show k * 4 + 4 + 1 = k * 4 + 1 + 4 from by omega, show k * 4 + 4 + 2 = k * 4 + 2 + 4 from by omega, show k * 4 + 4 + 3 = k * 4 + 3 + 4 from by omega]
    exact this
theorem Own.games {T : TypeId} {lo hi : Nat} {w : World} {A : Option Addr} {c : Nat} {rs : List Res} (h : Own T lo hi w A c (flat rs)) : Games w A rs := fun k r hr => by
  obtain ⟨h0, h1, h2, h3⟩ := flat_at rs k r hr
  obtain ⟨g, rfl, _, _, c0, _⟩ := h.at_ h0
  obtain ⟨g1, e1, _, _, c1, _⟩ := h.at_ h1
  obtain ⟨g2, e2, _, _, c2, _⟩ := h.at_ h2
  obtain ⟨g3, e3, _, _, c3, _⟩ := h.at_ h3
  obtain rfl : g = g1 := by injection e1 with e; injection e
  obtain rfl : g = g2 := by injection e2 with e; injection e
  obtain rfl : g = g3 := by injection e3 with e; injection e
  refine ⟨_, rfl, ?_⟩
  rw [addr_zero_add]
  exact ⟨c0, c1, c2, c3⟩
/-- A league: clubs and results. -/
def lgv (n : Int) (A : Option Addr) (m c : Nat) : Value := .agg #[.int .i64 n, .slice A m c]

set_option maxHeartbeats 400000 in
theorem szResultS_c (A : Option Addr) (n c : Nat) (l : Int) (w : World) (hn : n ≤ maxLen) (h0 : 0 ≤ l) (h1 : l ≤ 1048576) :
    Calls Try.prog 39 #[.slice A n c, .int .i64 l] w (Quiet w (.int .i64 (if l - n < 0 then -1 else l - n))) := by
  unfold maxLen at hn
  generalize hR : (if l - (n : Int) < 0 then -1 else l - (n : Int)) = R
  have HR := Lib.hid hR
  clear hR
  by_cases h : l < n
  all_goals
    go_enter Try.func39, Try.ntmps39
    go_wp2
    go_ret
    exact ⟨ret_int (by rw [← HR.out]; split <;> (first | rfl | omega)), Dr.refl _⟩
set_option maxHeartbeats 400000 in
theorem szLeague_c (m : Int) (A : Option Addr) (n c : Nat) (w : World) (hn : n ≤ maxLen) :
    Calls Try.prog 11 #[lgv m A n c, .int .i64 1048576] w (Gives w (.int .i64 (if (1048576 : Int) - n < 0 then -1 else 1048576 - n))) := by
  generalize hR : (if (1048576 : Int) - (n : Int) < 0 then -1 else (1048576 : Int) - (n : Int)) = R
  have HR := Lib.hid hR
  have hR2 : R < 0 ∨ 0 ≤ R := by omega
  clear hR
  unfold lgv
  have Hc := Lib.hid (fun W => calls_v (szResultS_c A n c 1048576 W hn (by omega) (by omega)) (congrArg (Value.int .i64) HR.out))
  rcases hR2 with hR2 | hR2
  · have hR3 : R = -1 := by rw [← HR.out] at hR2 ⊢; split at hR2 <;> rename_i h <;> simp [h] <;> omega
    subst hR3
    go_enter Try.func11, Try.ntmps11
    go_wp2_with fail
    refine (Hc.out _).mono ?_
    rintro e w1 ⟨rfl, hq⟩
    go_wp2
    go_ret
    exact ⟨rfl, ((Below.refl _ _).alloc (Nat.le_refl _) _).trans (hq.below _)⟩
  · have hR3 : ¬ R < 0 := by omega
    go_enter Try.func11, Try.ntmps11
    go_wp2_with fail
    refine (Hc.out _).mono ?_
    rintro e w1 ⟨rfl, hq⟩
    go_wp2
    go_ret
    exact ⟨rfl, ((Below.refl _ _).alloc (Nat.le_refl _) _).trans (hq.below _)⟩

set_option maxHeartbeats 1000000 in
theorem eqResult_c (h a g t : Int) (w : World) : Calls Try.prog 82 #[.agg #[.int .i64 h, .int .i64 a, .int .i64 g, .int .i64 t], .agg #[.int .i64 h, .int .i64 a, .int .i64 g, .int .i64 t]] w (Gives w (.bool true)) := by
  go_enter Try.func82, Try.ntmps82
  go_wp2
  go_ret
  exact ⟨rfl, ((Below.refl _ _).alloc (Nat.le_refl _) _).alloc (by simp) _⟩
set_option maxHeartbeats 1000000 in
theorem eqResultS_c (A B : Option Addr) (c d : Nat) (rs : List Res) (w : World) (ha : Games w A rs) (hb : Games w B rs) (hm : rs.length ≤ 1048576) :
    Calls Try.prog 47 #[.slice A rs.length c, .slice B rs.length d] w (Gives w (.bool true)) := by
  obtain ⟨n, hn⟩ : ∃ n, rs.length = n := ⟨_, rfl⟩
  rw [hn] at hm ⊢
  have Ha := Lib.hid ha
  have Hb := Lib.hid hb
  have Hn := Lib.hid hn
  clear ha hb hn
  go_enter Try.func47, Try.ntmps47
  go_wp2
  go_loopw [5] (fun i wr => ∃ k : Nat, k ≤ n ∧ i = .int .i64 k ∧ Below w.heap.size w wr) (fun i _ => n - (intOf i).toNat)
  case atStart => exact ⟨0, Nat.zero_le _, rfl, Below.refl _ _⟩
  case round =>
    obtain ⟨k, hk, rfl, hd⟩ := hrel
    have Hd := Lib.hid hd
    clear hd
    by_cases hlt : k < n
    · have hki : (k : Int) < (n : Int) := by omega
      obtain ⟨⟨h, a, g, t⟩, hr⟩ := some_of (l := rs) (k := k) (by rw [Hn.out]; exact hlt)
      obtain ⟨ad, rfl, a0, a1, a2, a3⟩ := (Ha.out.keep (keep_of_below Hd.out)) k _ hr
      obtain ⟨bd, rfl, b0, b1, b2, b3⟩ := (Hb.out.keep (keep_of_below Hd.out)) k _ hr
      have f0 := fun x : Past wr => Past.cell a0 x
      have f1 := fun x : Past wr => Past.cell a1 x
      have f2 := fun x : Past wr => Past.cell a2 x
      have f3 := fun x : Past wr => Past.cell a3 x
      have e0 := fun x : Past wr => Past.cell b0 x
      have e1 := fun x : Past wr => Past.cell b1 x
      have e2 := fun x : Past wr => Past.cell b2 x
      have e3 := fun x : Past wr => Past.cell b3 x
      have Hr := Lib.hid hr
      clear hr
      clear a0 a1 a2 a3 b0 b1 b2 b3
      go_wp2
      refine wp_region_past (by kernel_rfl) (by kernel_rfl) ?_
      repeat (go_big_quiet_step ((go_at_call 82; exact past_gives (eqResult_c _ _ _ _ _))))
      refine wpQuiet_nil ?_
      intro wx hwx
      obtain ⟨⟨wy, hbx⟩, hw⟩ := hwx
      change wx = wy at hw
      subst hw
      have hd2 := Hd.out.trans (hbx.mono Hd.out.size)
      have Hd2 := Lib.hid hd2
      clear hd2
      go_wp2
      go_roundw
      case rel => exact ⟨k + 1, by omega, by go_num, Hd2.out⟩
      case measure => simp [intOf]; omega
    · obtain rfl : k = n := by omega
      go_wp2
      go_ret
      exact ⟨rfl, Hd.out⟩
set_option maxHeartbeats 1000000 in
theorem eqLeague_c (m : Int) (A B : Option Addr) (c d : Nat) (rs : List Res) (w : World) (ha : Games w A rs) (hb : Games w B rs) (hm : rs.length ≤ 1048576) :
    Calls Try.prog 15 #[lgv m A rs.length c, lgv m B rs.length d] w (Gives w (.bool true)) := by
  unfold lgv
  have Ha := Lib.hid ha
  have Hb := Lib.hid hb
  clear ha hb
  go_enter Try.func15, Try.ntmps15
  go_wp2_with fail
  have hbw : ∀ T U, Below w.heap.size w ((w.alloc (.cells #[.int .i64 m, .slice A rs.length c] T)).alloc (.cells #[.int .i64 m, .slice B rs.length d] U)) := fun T U => ((Below.refl w.heap.size w).alloc (Nat.le_refl _) _).alloc (by simp) _
  refine (eqResultS_c _ _ _ _ rs _ (Ha.out.keep (keep_of_below (hbw _ _))) (Hb.out.keep (keep_of_below (hbw _ _))) hm).mono ?_
  rintro e w1 ⟨rfl, hb1⟩
  go_wp2
  go_ret
  exact ⟨rfl, (hbw _ _).trans (hb1.mono (hbw _ _).size)⟩
set_option maxHeartbeats 1000000 in
theorem toResult_c (h a g t : Int) (w : World) : Calls Try.prog 78 #[.agg #[.int .i64 h, .int .i64 a, .int .i64 g, .int .i64 t]] w (Gives w (.agg #[.int .i64 h, .int .i64 a, .int .i64 g, .int .i64 t])) := by
  go_enter Try.func78, Try.ntmps78
  go_wp2
  refine bodyPost_ret (v := .agg #[.int .i64 h, .int .i64 a, .int .i64 g, .int .i64 t]) (by simp [results, Try.results78, go_sem]) rfl ⟨rfl, ?_⟩
  repeat (first | exact Below.refl _ _ | (refine Below.setCell ?_ (by simp <;> omega) _) | (refine Below.alloc ?_ (by first | (simp; done) | (simp; omega)) _))

theorem made4 (z : Value) (n : Nat) : (madeCells #[z, z, z, z] n).toList = List.replicate n z := by
  apply List.ext_getElem
  · simp [madeCells]
  · intro i h1 h2
    have h3 : i % 4 < 4 := Nat.mod_lt _ (by decide)
    have h4 : ∀ j, j < 4 → ([z, z, z, z] : List Value)[j]?.getD default = z := fun j hj => by
      rcases j with _ | _ | _ | _ | j <;> first | rfl | omega
    simp [madeCells]
    exact h4 _ h3
theorem fill4 {rs : List Res} {k : Nat} {r : Res} {old : List Value} (hr : rs[k]? = some r) (hl : k * 4 + 4 ≤ old.length) :
    (((((flat rs).take (k * 4) ++ old.drop (k * 4)).set (k * 4) (.int .i64 r.h)).set (k * 4 + 1) (.int .i64 r.a)).set (k * 4 + 2) (.int .i64 r.g)).set (k * 4 + 3) (.int .i64 r.t) = (flat rs).take ((k + 1) * 4) ++ old.drop ((k + 1) * 4) := by
  obtain ⟨h0, h1, h2, h3⟩ := flat_at rs k r hr
  rw [fill_step h0 (by omega), fill_step h1 (by omega), fill_step h2 (by omega), fill_step h3 (by omega), show (k + 1) * 4 = k * 4 + 3 + 1 from by omega]
/-- Four cells written, one behind the other. -/
theorem four_sets {T : TypeId} {lo hi g c : Nat} {w : World} {us zs : List Value} {i : Nat} (h : Own T lo hi w (some ⟨g, 0, none⟩) c us) (hi4 : i + 4 ≤ us.length) (x0 x1 x2 x3 : Value) (hz : (((us.set i x0).set (i + 1) x1).set (i + 2) x2).set (i + 3) x3 = zs) :
    ∃ y0 y1 y2 y3, w.cell? ⟨g, i, none⟩ = some y0 ∧ w.frozen? ⟨g, i, none⟩ = false ∧ (w.setCell ⟨g, i, none⟩ x0).cell? ⟨g, i + 1, none⟩ = some y1 ∧ w.frozen? ⟨g, i + 1, none⟩ = false ∧
      ((w.setCell ⟨g, i, none⟩ x0).setCell ⟨g, i + 1, none⟩ x1).cell? ⟨g, i + 2, none⟩ = some y2 ∧ w.frozen? ⟨g, i + 2, none⟩ = false ∧
      (((w.setCell ⟨g, i, none⟩ x0).setCell ⟨g, i + 1, none⟩ x1).setCell ⟨g, i + 2, none⟩ x2).cell? ⟨g, i + 3, none⟩ = some y3 ∧ w.frozen? ⟨g, i + 3, none⟩ = false ∧
      Own T lo hi ((((w.setCell ⟨g, i, none⟩ x0).setCell ⟨g, i + 1, none⟩ x1).setCell ⟨g, i + 2, none⟩ x2).setCell ⟨g, i + 3, none⟩ x3) (some ⟨g, 0, none⟩) c zs := by
  subst hz
  have at' : ∀ {W : World} {vs : List Value} (j : Nat), Own T lo hi W (some ⟨g, 0, none⟩) c vs → j < vs.length → ∃ y, W.cell? ⟨g, j, none⟩ = some y ∧ W.frozen? ⟨g, j, none⟩ = false := fun j ho hj => by
    obtain ⟨y, hy⟩ := some_of hj
    obtain ⟨g', e, _, _, hc, hf⟩ := ho.at_ hy
    obtain rfl : g = g' := by injection e with e; injection e
    exact ⟨y, hc, hf⟩
  have h1 := h.set_ i x0
  have h2 := h1.set_ (i + 1) x1
  have h3 := h2.set_ (i + 2) x2
  obtain ⟨y0, a0, b0⟩ := at' i h (by omega)
  obtain ⟨_, _, b1⟩ := at' (i + 1) h (by omega)
  obtain ⟨_, _, b2⟩ := at' (i + 2) h (by omega)
  obtain ⟨_, _, b3⟩ := at' (i + 3) h (by omega)
  obtain ⟨y1, a1, _⟩ := at' (i + 1) h1 (by simp; omega)
  obtain ⟨y2, a2, _⟩ := at' (i + 2) h2 (by simp; omega)
  obtain ⟨y3, a3, _⟩ := at' (i + 3) h3 (by simp; omega)
  exact ⟨y0, y1, y2, y3, a0, b0, a1, b1, a2, b2, a3, b3, h3.set_ (i + 3) x3⟩
theorem info_res : (Try.prog.info? 47).map (fun i => (i.zero, i.size, i.bytes)) = some (some (.agg #[.int .i64 0, .int .i64 0, .int .i64 0, .int .i64 0]), 4, 32) := by kernel_rfl
theorem make_res (n : Nat) (hn : n ≤ 1048576) (W : World) : (Instr.makeSlice 27 (.int .i64 (n : Int)) (.int .i64 (n : Int))).run Try.prog W = .ok (.slice (some ⟨W.heap.size, 0, none⟩) n n) (W.alloc (.cells (madeCells #[.int .i64 0, .int .i64 0, .int .i64 0, .int .i64 0] (n * 4)) 47)) := by
  obtain ⟨i, hi, hzz⟩ := Option.map_eq_some_iff.1 info_res
  simp only [Prod.mk.injEq] at hzz
  obtain ⟨hz, hs, hb⟩ := hzz
  have := run_make (P := Try.prog) W 27 47 i _ Try.underlying27 hi hz .i64 .i64 n n (by omega) (Int.le_refl _) (by rw [hb]; omega) (by omega)
  rw [hs, Int.toNat_natCast] at this
  exact this
set_option maxHeartbeats 1000000 in
theorem toResultS_c (A : Option Addr) (c : Nat) (rs : List Res) (w : World) (ha : Games w A rs) (hm : rs.length ≤ 1048576) :
    Calls Try.prog 43 #[.slice A rs.length c] w (fun e w' => ∃ A c, e = .returned (.slice A rs.length c) ∧ Own 47 w.heap.size w'.heap.size w' A (rs.length * 4) (flat rs) ∧ Below w.heap.size w w') := by
  obtain ⟨n, hn⟩ : ∃ n, rs.length = n := ⟨_, rfl⟩
  rw [hn] at hm ⊢
  have hmk := make_res n hm
  have ho0 : Own 47 w.heap.size (w.heap.size + 1) (w.alloc (.cells (madeCells #[.int .i64 0, .int .i64 0, .int .i64 0, .int .i64 0] (n * 4)) 47)) (some ⟨w.heap.size, 0, none⟩) (n * 4) (List.replicate (n * 4) (.int .i64 0)) := by
    refine ⟨by simp, by unfold maxLen; omega, .inr ⟨w.heap.size, _, rfl, Nat.le_refl _, Nat.lt_succ_self _, heap_alloc_new w _, size_madeCells _ _, ?_⟩⟩
    rw [made4]; simp
  have Ha := Lib.hid ha
  have Hn := Lib.hid hn
  have Ho0 := Lib.hid ho0
  clear ha hn ho0
  go_enter Try.func43, Try.ntmps43
  go_wp2
  go_loopw [4] (fun i wr => ∃ k : Nat, k ≤ n ∧ i = .int .i64 k ∧ Own 47 w.heap.size (w.heap.size + 1) wr (some ⟨w.heap.size, 0, none⟩) (n * 4) ((flat rs).take (k * 4) ++ (List.replicate (n * 4) (Value.int .i64 0)).drop (k * 4)) ∧ Below w.heap.size w wr ∧ w.heap.size < wr.heap.size) (fun i _ => n - (intOf i).toNat)
  case atStart => exact ⟨0, Nat.zero_le _, rfl, by simpa using Ho0.out, (Below.refl _ _).alloc (Nat.le_refl _) _, by simp⟩
  case round =>
    clear Ho0
    obtain ⟨k, hk, rfl, ho, hb, hz⟩ := hrel
    have Ho := Lib.hid ho
    have Hb := Lib.hid hb
    clear ho hb
    by_cases hlt : k < n
    · have hki : (k : Int) < (n : Int) := by omega
      obtain ⟨⟨h, a, g, t⟩, hr⟩ := some_of (l := rs) (k := k) (by rw [Hn.out]; exact hlt)
      obtain ⟨ad, rfl, a0, a1, a2, a3⟩ := (Ha.out.keep (keep_of_below Hb.out)) k _ hr
      have hfl := flat_length rs
      have hf4 := fill4 (old := List.replicate (n * 4) (Value.int .i64 0)) hr (by simp; omega)
      have hln : k * 4 + 4 ≤ ((flat rs).take (k * 4) ++ (List.replicate (n * 4) (Value.int .i64 0)).drop (k * 4)).length := by rw [List.length_append, List.length_take, List.length_drop, hfl, Hn.out, List.length_replicate]; omega
      have Hr := Lib.hid hr
      have Hfl := Lib.hid hfl
      have Hf4 := Lib.hid hf4
      have Hln := Lib.hid hln
      clear hr hfl hf4 hln
      go_wp2_with fail
      refine (toResult_c h a g t wr).mono ?_
      rintro e w2 ⟨rfl, hb2⟩
      have ho2 := Ho.out.below (hb2.mono hz)
      have hbw := Hb.out.trans (hb2.mono Hb.out.size)
      have hz2 : w.heap.size < w2.heap.size := Nat.lt_of_lt_of_le hz hb2.size
      obtain ⟨y0, y1, y2, y3, c0, f0, c1, f1, c2, f2, c3, f3, ho3⟩ := four_sets ho2 Hln.out (.int .i64 h) (.int .i64 a) (.int .i64 g) (.int .i64 t) Hf4.out
      have hb4 := (((hbw.setCell (p := ⟨w.heap.size, k * 4, none⟩) (Nat.le_refl _) (.int .i64 h)).setCell (p := ⟨w.heap.size, k * 4 + 1, none⟩) (Nat.le_refl _) (.int .i64 a)).setCell (p := ⟨w.heap.size, k * 4 + 2, none⟩) (Nat.le_refl _) (.int .i64 g)).setCell (p := ⟨w.heap.size, k * 4 + 3, none⟩) (Nat.le_refl _) (.int .i64 t)
      have hz4 : w.heap.size < ((((w2.setCell ⟨w.heap.size, k * 4, none⟩ (.int .i64 h)).setCell ⟨w.heap.size, k * 4 + 1, none⟩ (.int .i64 a)).setCell ⟨w.heap.size, k * 4 + 2, none⟩ (.int .i64 g)).setCell ⟨w.heap.size, k * 4 + 3, none⟩ (.int .i64 t)).heap.size := by simpa only [setCell_size] using hz2
      have Ho3 := Lib.hid ho3
      have Hb4 := Lib.hid hb4
      clear ho3 hb4
      clear ho2 hb2 a0 a1 a2 a3
      go_wp2
      go_roundw
      case rel => exact ⟨k + 1, by omega, by go_num, Ho3.out, Hb4.out, hz4⟩
      case measure => simp [intOf]; omega
    · obtain rfl : k = n := by omega
      have ho3 := Ho.out
      rw [List.take_of_length_le (by rw [flat_length, Hn.out]; exact Nat.le_refl _), List.drop_eq_nil_of_le (by simp), List.append_nil] at ho3
      have Ho3 := Lib.hid ho3
      clear ho3
      go_wp2
      go_ret
      exact ⟨_, _, rfl, Ho3.out.wide (Nat.le_refl _) hz, Hb.out⟩
theorem alloc3 (w : World) (X Y Z : Obj) : (((w.alloc X).alloc Y).alloc Z).heap[w.heap.size + 1]? = some Y ∧ (((w.alloc X).alloc Y).alloc Z).heap[w.heap.size + 1 + 1]? = some Z := by
  have h1 : (w.alloc X).heap.size = w.heap.size + 1 := by simp
  have h2 : ((w.alloc X).alloc Y).heap.size = w.heap.size + 1 + 1 := by simp
  constructor
  · rw [heap_alloc_old _ _ (by omega), ← h1]; exact heap_alloc_new _ _
  · rw [← h2]; exact heap_alloc_new _ _
theorem cell_new2 {w w' : World} {b : Nat} {x y : Value} {T : TypeId} (h : w.heap[b]? = some (.cells #[x, y] T)) (hb : Below w.heap.size w w') :
    w'.cell? ⟨b, 0, none⟩ = some x ∧ w'.cell? ⟨b, 1, none⟩ = some y ∧ w'.frozen? ⟨b, 0, none⟩ = false ∧ w'.frozen? ⟨b, 1, none⟩ = false := by
  have hlt : b < w.heap.size := (Array.getElem?_eq_some_iff.1 h).1
  have h2 : w'.heap[b]? = some (.cells #[x, y] T) := (hb.block b hlt).trans h
  refine ⟨?_, ?_, ?_, ?_⟩ <;> simp [World.cell?, World.frozen?, h2]
/-- A league that reads as these results comes back, its results a row of the call's own. -/
def GivesLg (w : World) (n : Int) (rs : List Res) (e : Ending) (w' : World) : Prop := ∃ A c, e = .returned (lgv n A rs.length c) ∧ Own 47 w.heap.size w'.heap.size w' A (rs.length * 4) (flat rs) ∧ Below w.heap.size w w'
set_option maxHeartbeats 1000000 in
theorem toLeague_c (m : Int) (A : Option Addr) (c : Nat) (rs : List Res) (w : World) (ha : Games w A rs) (hm : rs.length ≤ 1048576) :
    Calls Try.prog 13 #[lgv m A rs.length c] w (GivesLg w m rs) := by
  obtain ⟨n, hn⟩ : ∃ n, rs.length = n := ⟨_, rfl⟩
  have hc := fun W (h : Below w.heap.size w W) => toResultS_c A c rs W (ha.keep (keep_of_below h)) hm
  unfold lgv GivesLg lgv
  rw [hn] at hc ⊢
  have Ha := Lib.hid ha
  have Hn := Lib.hid hn
  have Hc := Lib.hid hc
  clear ha hn hc
  go_enter Try.func13, Try.ntmps13
  go_wp2_with fail
  refine (Hc.out _ ?_).mono ?_
  · repeat (first | exact Below.refl _ _ | (refine Below.setCell ?_ (by simp <;> omega) _) | (refine Below.alloc ?_ (by first | (simp; done) | (simp; omega)) _))
  rintro e w1 ⟨B, d, rfl, ho, hb⟩
  have hz := hb.size
  simp only [World.alloc, Array.size_push] at hz
  obtain ⟨p0, p1, p2, p3⟩ := cell_new2 (b := w.heap.size + 1) (x := .int .i64 0) (y := .slice none 0 0) (T := 29) (alloc3 _ _ _ _).1 hb
  obtain ⟨q0, q1, q2, q3⟩ := cell_new2 (b := w.heap.size + 1 + 1) (x := .int .i64 m) (y := .slice none 0 0) (T := 29) (alloc3 _ _ _ _).2 hb
  have hb2 := Below.trans (show Below w.heap.size w _ from by repeat (first | exact Below.refl _ _ | (refine Below.setCell ?_ (by simp <;> omega) _) | (refine Below.alloc ?_ (by first | (simp; done) | (simp; omega)) _))) (hb.mono (by first | (simp; done) | (simp; omega)))
  have hon : Only w.heap.size (w.heap.size + 3) w1 (((w1.setCell ⟨w.heap.size + 1 + 1, 1, none⟩ (.slice B n d)).setCell ⟨w.heap.size + 1, 0, none⟩ (.int .i64 m)).setCell ⟨w.heap.size + 1, 1, none⟩ (.slice B n d)) :=
    (((Only.refl _ _ _).setCell (by omega) (by omega) _).setCell (by omega) (by omega) _).setCell (by omega) (by omega) _
  have ho2 := ho.only hon (Nat.le_refl _) (.inr (by first | (simp; done) | (simp; omega)))
  have ho3 := ho2.wide (lo' := w.heap.size) (by first | (simp; done) | (simp; omega)) hon.size
  have hb3 := hb2.trans (below_of_only hon (Nat.le_refl _) (by omega))
  have Ho3 := Lib.hid ho3
  have Hb3 := Lib.hid hb3
  clear ho3 hb3
  clear ho ho2 hon hb2 hb
  go_wp2
  exact bodyPost_ret (v := .agg #[.int .i64 m, .slice B n d]) (by simp [results, Try.results13, go_sem, p0, p1]) rfl ⟨B, d, rfl, Ho3.out, Hb3.out⟩
def OwnN (T : TypeId) (lo hi : Nat) (w : World) (A : Option Addr) (c n : Nat) : Prop := ∃ us : List Value, us.length = n ∧ Own T lo hi w A c us
set_option maxHeartbeats 2000000 in
theorem markResultS_c (lo hi : Nat) (A : Option Addr) (c d n : Nat) (w : World) (ha : OwnN 47 lo hi w A d (n * 4)) (hm : n ≤ 1048576) :
    Calls Try.prog 54 #[.slice A n c, .int .i64 1] w fun e w' => e = .returned (.int .i64 (1 + 4 * (n : Int))) ∧ Only lo hi w w' := by
  have Ha := Lib.hid ha
  clear ha
  go_enter Try.func54, Try.ntmps54
  go_wp2
  go_loopw [1, 5] (fun m i wr => ∃ k : Nat, k ≤ n ∧ i = .int .i64 k ∧ m = .int .i64 (1 + 4 * (k : Int)) ∧ OwnN 47 lo hi wr A d (n * 4) ∧ Only lo hi w wr) (fun _ i _ => n - (intOf i).toNat)
  case atStart => exact ⟨0, Nat.zero_le _, rfl, by simp, Ha.out, Only.refl ..⟩
  case round =>
    obtain ⟨k, hk, rfl, rfl, ho, hb⟩ := hrel
    have Hb := Lib.hid hb
    clear hb
    by_cases hlt : k < n
    · obtain ⟨us, hul, ho⟩ := ho
      have hki : (k : Int) < (n : Int) := by omega
      obtain ⟨u, hu⟩ := some_of (l := us) (k := k * 4) (by omega)
      obtain ⟨g, rfl, hg1, hg2, _, _⟩ := ho.at_ hu
      obtain ⟨x0, hx0⟩ : ∃ x, (1 + 4 * (k : Int)) = x := ⟨_, rfl⟩
      have hx00 : 0 ≤ x0 := by omega
      have hx01 : x0 ≤ 5000000 := by omega
      rw [hx0]
      obtain ⟨y0, y1, y2, y3, c0, f0, c1, f1, c2, f2, c3, f3, ho3⟩ := four_sets ho (i := k * 4) (by omega) (.int .i64 x0) (.int .i64 (x0 + 1)) (.int .i64 (x0 + 1 + 1)) (.int .i64 (x0 + 1 + 1 + 1)) rfl
      have hl3 : ((((us.set (k * 4) (.int .i64 x0)).set (k * 4 + 1) (.int .i64 (x0 + 1))).set (k * 4 + 2) (.int .i64 (x0 + 1 + 1))).set (k * 4 + 3) (.int .i64 (x0 + 1 + 1 + 1))).length = n * 4 := by simp [hul]
      have hon := ((((Only.refl lo hi wr).setCell (g := g) (k := k * 4) hg1 hg2 (.int .i64 x0)).setCell (g := g) (k := k * 4 + 1) hg1 hg2 (.int .i64 (x0 + 1))).setCell (g := g) (k := k * 4 + 2) hg1 hg2 (.int .i64 (x0 + 1 + 1))).setCell (g := g) (k := k * 4 + 3) hg1 hg2 (.int .i64 (x0 + 1 + 1 + 1))
      have hon2 := Hb.out.trans hon
      have Ho3 := Lib.hid ho3
      have Hl3 := Lib.hid hl3
      have Hon2 := Lib.hid hon2
      have Hx0 := Lib.hid hx0
      clear ho3 hl3 hon2 hx0
      clear ho hu hul hon
      go_wp2
      go_roundw
      case rel => exact ⟨k + 1, by omega, by go_num, by have := Hx0.out; first | go_num | (congr 1; omega) | skip, ⟨_, Hl3.out, Ho3.out⟩, Hon2.out⟩
      case measure => simp [intOf]; omega
    · obtain rfl : k = n := by omega
      go_wp2
      go_ret
      exact ⟨rfl, Hb.out⟩
set_option maxHeartbeats 1000000 in
theorem markLeague_c (m : Int) (lo hi : Nat) (A : Option Addr) (c d n : Nat) (w : World) (ha : OwnN 47 lo hi w A d (n * 4)) (hm : n ≤ 1048576) (hsz : hi ≤ w.heap.size) :
    Calls Try.prog 19 #[lgv m A n c, .int .i64 1] w fun e w' => ∃ w1, e = .returned (.int .i64 (1 + 4 * (n : Int))) ∧ Below w.heap.size w w1 ∧ Only lo hi w1 w' := by
  unfold lgv
  have hc := fun T => markResultS_c lo hi A c d n (w.alloc (.cells #[.int .i64 m, .slice A n c] T)) (by
    obtain ⟨us, h1, h2⟩ := ha
    exact ⟨us, h1, h2.below ((Below.refl _ _).alloc hsz _)⟩) hm
  have Hc := Lib.hid hc
  clear hc
  go_enter Try.func19, Try.ntmps19
  go_wp2_with fail
  refine (Hc.out _).mono ?_
  rintro e w1 ⟨rfl, hon⟩
  have Hon := Lib.hid hon
  clear hon
  go_wp2
  go_ret
  exact ⟨_, rfl, (Below.refl _ _).alloc (Nat.le_refl _) _, Hon.out⟩
end Go.Proofs.Ytehlijpjcjegcaa
