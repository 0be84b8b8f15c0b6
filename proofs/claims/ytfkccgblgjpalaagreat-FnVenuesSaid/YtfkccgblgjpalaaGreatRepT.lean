
/- Contracts: strings.Replacer for two letters that are exchanged: its table is made (build, buildOnce), and it is used (Replace); OtherPattern. -/
import Derived.Test.YtfkccgblgjpalaaGreatRepB
import Derived.Test.YtfkccgblgjpalaaGreatOnce
import Derived.Test.YtfkccgblgjpalaaGreatStrs
import Derived.Shelf.Abstract
namespace Go.Proofs.YtfkccgblgjpalaaGreat
open Go.RowKit
set_option linter.unusedVariables false
set_option linter.unusedSimpArgs false

/-- Four strings that lie behind each other: H A A H. -/
def Four4 (w : World) (q : Nat) : Prop := w.cell? ⟨q, 0, none⟩ = some (.string ⟨#[72]⟩) ∧ w.cell? ⟨q, 1, none⟩ = some (.string ⟨#[65]⟩) ∧ w.cell? ⟨q, 2, none⟩ = some (.string ⟨#[65]⟩) ∧ w.cell? ⟨q, 3, none⟩ = some (.string ⟨#[72]⟩)
def idRow : List Value := (List.range 256).map fun c : Nat => .int .u8 (c : Int)
def zeroRow : List Value := List.replicate 256 (.int .u8 0)
theorem idRow_at {c : Nat} (h : c < 256) : idRow[c]? = some (.int .u8 (c : Int)) := by
  rw [idRow, List.getElem?_map, List.getElem?_range h]; rfl
theorem idRow_len : idRow.length = 256 := by simp [idRow]
theorem zeroRow_len : zeroRow.length = 256 := by rw [zeroRow, List.length_replicate]
theorem zeroRow_at {c : Nat} (h : c < 256) : zeroRow[c]? = some (.int .u8 0) := by rw [zeroRow, List.getElem?_replicate, if_pos h]
theorem own_zero (T : TypeId) (w : World) : Own T w.heap.size (w.heap.size + 1) (w.alloc (.cells (Array.replicate 256 (.int .u8 0)) T)) (some ⟨w.heap.size, 0, none⟩) 256 (idRow.take 0 ++ zeroRow.drop 0) :=
  ⟨by rw [List.take_zero, List.drop_zero, List.nil_append, zeroRow_len]; exact Nat.le_refl _, by unfold maxLen; omega, .inr ⟨w.heap.size, _, rfl, Nat.le_refl _, Nat.lt_succ_self _, heap_alloc_new w _, by rw [Array.size_replicate], by
    rw [List.take_zero, List.drop_zero, List.nil_append, zeroRow_len, Array.toList_replicate]; exact List.take_of_length_le (by rw [List.length_replicate]; exact Nat.le_refl _)⟩⟩
theorem tab_of {w : World} {g lo hi : Nat} {T : TypeId} (h : Own T lo hi w (some ⟨g, 0, none⟩) 256 ((idRow.set 65 (.int .u8 72)).set 72 (.int .u8 65))) : Tab w g := fun c hc => by
  have hs : ((idRow.set 65 (.int .u8 72)).set 72 (.int .u8 65))[c]? = some (.int .u8 (swapB c : Nat)) := by
    have hl := idRow_len
    rw [List.getElem?_set, List.getElem?_set, List.length_set, hl]
    by_cases e1 : 72 = c
    · subst e1; simp [swapB]
    · rw [if_neg e1]
      by_cases e2 : 65 = c
      · subst e2; simp [swapB]
      · rw [if_neg e2, idRow_at hc, swapB, if_neg (by omega), if_neg (by omega)]
  obtain ⟨g', e, _, _, hcell, _⟩ := h.at_ hs
  obtain rfl : g = g' := by injection e with e; injection e
  exact hcell

set_option maxRecDepth 100000 in
set_option maxHeartbeats 4000000 in
theorem build_c (b q c : Nat) (w : World) (ho : w.cell? ⟨b, 4, none⟩ = some (.slice (some ⟨q, 0, none⟩) 4 c)) (h4 : Four4 w q) :
    Calls Tryz.prog 76 #[.pointer (some ⟨b, 0, none⟩)] w fun e w' => ∃ g, e = .returned (.iface 116 (.pointer (some ⟨g, 0, none⟩))) ∧ g < w'.heap.size ∧ w.heap.size ≤ g ∧ Tab w' g ∧ Below w.heap.size w w' := by
  obtain ⟨s0, s1, s2, s3⟩ := h4
  obtain ⟨Z, hZ⟩ : ∃ Z : Array Value, Z = Array.replicate 256 (.int .u8 0) := ⟨_, rfl⟩
  have hinfo : (Tryz.prog.info? 115).map (fun i => (i.zero, i.size)) = some (some (.agg Z), 256) := by rw [hZ]; kernel_rfl
  have hz := zero_of_info hinfo
  have hbld : ∀ W, (Instr.build 115 #[]).run Tryz.prog W = .ok (.agg Z) W := fun W => by rw [hZ]; kernel_rfl
  have hsto := fun (W : World) => run_storeAt_new (P := Tryz.prog) W 115 Z Z (by rw [hz.2, hZ]; simp) rfl (by rw [hZ]; decide +kernel)
  have hstc := fun (W : World) => run_storeCells_new (P := Tryz.prog) W 115 Z Z (by rw [hz.2, hZ]; simp) rfl (by rw [hZ]; decide +kernel)
  have hZs : Z.size = 256 := by rw [hZ]; simp
  have hzv := hz.1
  have HZ := Lib.hid hZ
  clear hZ hz hinfo
  have e65 : (⟨#[65]⟩ : ByteArray)[0].toNat = 65 := rfl
  have e72 : (⟨#[72]⟩ : ByteArray)[0].toNat = 72 := rfl
  go_enter Tryz.func76, Tryz.ntmps76
  go_wp2
  go_loop [5, 4] (fun i t => (i = .int .i64 0 ∨ i = .int .i64 2 ∨ i = .int .i64 4) ∧ t = .bool true) (fun i _ => 4 - (intOf i).toNat)
  case atStart => exact ⟨.inl rfl, rfl⟩
  case round =>
    obtain ⟨hi, rfl⟩ := hrel
    rcases hi with rfl | rfl | rfl
    · go_wp2
      go_round
      case rel => exact ⟨.inr (.inl rfl), rfl⟩
      case measure => simp [intOf]
    · go_wp2
      go_round
      case rel => exact ⟨.inr (.inr rfl), rfl⟩
      case measure => simp [intOf]
    · go_wp2
      have Ho0 := Lib.hid ho
      clear ho
      have S0 := Lib.hid s0
      have S1 := Lib.hid s1
      have S2 := Lib.hid s2
      have S3 := Lib.hid s3
      clear s0 s1 s2 s3
      go_loopw [61] (fun i wr => ∃ k : Nat, k ≤ 256 ∧ i = .int .i64 k ∧ Own 115 w.heap.size (w.heap.size + 1) wr (some ⟨w.heap.size, 0, none⟩) 256 (idRow.take k ++ zeroRow.drop k) ∧ Below w.heap.size w wr ∧ w.heap.size < wr.heap.size) (fun i _ => 256 - (intOf i).toNat)
      case atStart =>
        refine ⟨0, Nat.zero_le _, rfl, ?_, (Below.refl _ _).alloc (Nat.le_refl _) _, by simp⟩
        rw [HZ.out]
        exact own_zero _ w
      case round =>
        obtain ⟨k, hk, rfl, ho, hb, hz⟩ := hrel
        have Ho := Lib.hid ho
        have Hb := Lib.hid hb
        clear ho hb
        by_cases hlt : k < 256
        · obtain ⟨g', hg', _, _, hcb, hfb⟩ := Ho.out.at_ (k := k) (u := .int .u8 0) (by rw [fill_at (by rw [idRow_len]; omega)]; exact zeroRow_at hlt)
          obtain rfl : w.heap.size = g' := by injection hg' with hg'; injection hg'
          clear hg'
          go_wp2
          go_roundw
          case rel => exact ⟨k + 1, by omega, by go_num, by rw [← fill_step (idRow_at hlt) (by rw [zeroRow_len]; exact hlt)]; exact Ho.out.set_ k _, Hb.out.setCell (Nat.le_refl _) _, by simpa [World.setCell] using hz⟩
          case measure => simp [intOf]; omega
        · obtain rfl : k = 256 := by omega
          have hO := Ho.out
          rw [List.take_of_length_le (by rw [idRow_len]; exact Nat.le_refl _), List.drop_eq_nil_of_le (by rw [zeroRow_len]; exact Nat.le_refl _), List.append_nil] at hO
          have hO1 := hO.set_ 65 (.int .u8 72)
          have hO2 := hO1.set_ 72 (.int .u8 65)
          obtain ⟨g1, e1, _, _, c65, z65⟩ := hO.at_ (k := 65) (idRow_at (by decide))
          obtain rfl : w.heap.size = g1 := by injection e1 with e1; injection e1
          obtain ⟨g2, e2, _, _, c72, z72⟩ := hO1.at_ (k := 72) (u := .int .u8 72) (by rw [List.getElem?_set_ne (by decide)]; exact idRow_at (by decide))
          obtain rfl : w.heap.size = g2 := by injection e2 with e2; injection e2
          have ho := keep_of_below Hb.out _ _ Ho0.out
          have s0 := keep_of_below Hb.out _ _ S0.out
          have s1 := keep_of_below Hb.out _ _ S1.out
          have s2 := keep_of_below Hb.out _ _ S2.out
          have s3 := keep_of_below Hb.out _ _ S3.out
          have hgz : w.heap.size < wr.heap.size := hz
          obtain ⟨G, hG⟩ : ∃ G, w.heap.size = G := ⟨_, rfl⟩
          rw [hG] at hO2 c65 z65 c72 z72 hgz hO hO1 ⊢
          obtain ⟨wA, hwA⟩ : ∃ wA : World, wA = wr := ⟨_, rfl⟩
          rw [← hwA] at ho s0 s1 s2 s3 hO2 c65 z65 c72 z72 hgz Hb ⊢
          have hqG : q < G := by have := World.block_lt_of_cell? w _ S0.out; rw [← hG]; exact this
          have s0' : (wA.setCell ⟨G, 65, none⟩ (.int .u8 72)).cell? ⟨q, 0, none⟩ = some (.string ⟨#[72]⟩) := (World.cell?_setCell_other _ _ _ _ (by simp only [ne_eq, Addr.mk.injEq]; omega)).trans s0
          have s1' : (wA.setCell ⟨G, 65, none⟩ (.int .u8 72)).cell? ⟨q, 1, none⟩ = some (.string ⟨#[65]⟩) := (World.cell?_setCell_other _ _ _ _ (by simp only [ne_eq, Addr.mk.injEq]; omega)).trans s1
          have z72' : wA.frozen? ⟨G, 72, none⟩ = false := by simpa using z72
          have hGw : w.heap.size ≤ G := by omega
          have hfin : Below w.heap.size w ((wA.setCell ⟨G, 65, none⟩ (.int .u8 72)).setCell ⟨G, 72, none⟩ (.int .u8 65)) := (Hb.out.setCell hGw _).setCell hGw _
          have hfz : G < ((wA.setCell ⟨G, 65, none⟩ (.int .u8 72)).setCell ⟨G, 72, none⟩ (.int .u8 65)).heap.size := by simpa [World.setCell] using hgz
          have HO2 := Lib.hid hO2
          have Hfin := Lib.hid hfin
          have Hfz := Lib.hid hfz
          have HG := Lib.hid hG
          clear hO2 hfin hfz hG
          clear hO hO1 Ho hwA wr hlt hz hgz z72 Hb ho Ho0 S0 S1 S2 S3
          go_wp2
          go_loopw [8] (fun i wr => (i = .int .i64 2 ∧ wr = wA) ∨ (i = .int .i64 0 ∧ wr = wA.setCell ⟨G, 65, none⟩ (.int .u8 72)) ∨ (i = .int .i64 (-2) ∧ wr = (wA.setCell ⟨G, 65, none⟩ (.int .u8 72)).setCell ⟨G, 72, none⟩ (.int .u8 65))) (fun i _ => (intOf i + 2).toNat)
          case atStart => exact .inl ⟨rfl, rfl⟩
          case round =>
            rcases hrel with ⟨rfl, rfl⟩ | ⟨rfl, rfl⟩ | ⟨rfl, rfl⟩
            · go_wp2
              go_roundw
              case rel => simp
              case measure => simp [intOf]
            · go_wp2
              go_roundw
              case rel => simp
              case measure => simp [intOf]
            · go_wp2
              go_ret
              exact ⟨G, rfl, Hfz.out, hGw, tab_of HO2.out, Hfin.out⟩

/-- buildOnce: the table is in the interface's cell, the Once's cells are as they were. -/
theorem buildOnce_c (b q c : Nat) (w : World) (d s : Value) (u3 : Value) (hb : b < w.heap.size) (h0 : w.cell? ⟨b, 0, none⟩ = some d) (h1 : w.cell? ⟨b, 1, none⟩ = some s) (h3 : w.cell? ⟨b, 3, none⟩ = some u3)
    (ho : w.cell? ⟨b, 4, none⟩ = some (.slice (some ⟨q, 0, none⟩) 4 c)) (f0 : w.frozen? ⟨b, 0, none⟩ = false) (f1 : w.frozen? ⟨b, 1, none⟩ = false) (f3 : w.frozen? ⟨b, 3, none⟩ = false) (f4 : w.frozen? ⟨b, 4, none⟩ = false) (h4 : Four4 w q) :
    Calls Tryz.prog 63 #[.pointer (some ⟨b, 0, none⟩)] w fun e w' => e = .returned (.tuple #[]) ∧ w'.cell? ⟨b, 0, none⟩ = some d ∧ w'.cell? ⟨b, 1, none⟩ = some s ∧ w'.frozen? ⟨b, 0, none⟩ = false ∧ w'.frozen? ⟨b, 1, none⟩ = false ∧
      ∃ g, w'.cell? ⟨b, 3, none⟩ = some (.iface 116 (.pointer (some ⟨g, 0, none⟩))) ∧ g < w'.heap.size ∧ b < g ∧ Tab w' g ∧ Below b w w' := by
  have hc := build_c b q c w ho h4
  have Hc := Lib.hid hc
  have Ho := Lib.hid ho
  have H4 := Lib.hid h4
  clear hc ho h4
  go_enter Tryz.func63, Tryz.ntmps63
  go_wp2_with fail
  refine Hc.out.mono ?_
  rintro e w1 ⟨g, rfl, hg, hgb, ht, hbl⟩
  have hk := keep_of_below hbl
  have c0 := hk _ _ h0
  have c1 := hk _ _ h1
  have c3 := hk _ _ h3
  have c4 := hk _ _ Ho.out
  have z0 := (hbl.frozen (p := ⟨b, 0, none⟩) hb).trans f0
  have z1 := (hbl.frozen (p := ⟨b, 1, none⟩) hb).trans f1
  have z3 := (hbl.frozen (p := ⟨b, 3, none⟩) hb).trans f3
  have z4 := (hbl.frozen (p := ⟨b, 4, none⟩) hb).trans f4
  have hbg : b < g := by omega
  have ht2 : Tab ((w1.setCell ⟨b, 3, none⟩ (.iface 116 (.pointer (some ⟨g, 0, none⟩)))).setCell ⟨b, 4, none⟩ (.slice none 0 0)) g := fun x hx =>
    (World.cell?_setCell_other _ ⟨b, 4, none⟩ ⟨g, x, none⟩ _ (by simp only [ne_eq, Addr.mk.injEq]; omega)).trans ((World.cell?_setCell_other _ ⟨b, 3, none⟩ ⟨g, x, none⟩ _ (by simp only [ne_eq, Addr.mk.injEq]; omega)).trans (ht x hx))
  have hb2 : Below b w ((w1.setCell ⟨b, 3, none⟩ (.iface 116 (.pointer (some ⟨g, 0, none⟩)))).setCell ⟨b, 4, none⟩ (.slice none 0 0)) := ((hbl.mono (show b ≤ w.heap.size by omega)).setCell (p := ⟨b, 3, none⟩) (Nat.le_refl _) _).setCell (p := ⟨b, 4, none⟩) (Nat.le_refl _) _
  have Hg := Lib.hid hg
  have Ht := Lib.hid ht
  have Ht2 := Lib.hid ht2
  have Hbl := Lib.hid hbl
  have Hb2 := Lib.hid hb2
  clear hg ht ht2 hbl hb2
  clear hk
  clear h0 h1 h3 f0 f1 f3 f4
  go_wp2
  go_end0
  exact ⟨rfl, by simp [go_sem, c0], by simp [go_sem, c1], by simp [z0], by simp [z1], g, by simp [go_sem, c3], by simpa [World.setCell] using Hg.out, hbg, Ht2.out, Hb2.out⟩

/-- A new Replacer of H A A H. -/
structure Fresh (w : World) (b q c : Nat) : Prop where
  lt : b < w.heap.size
  c0 : w.cell? ⟨b, 0, none⟩ = some (.int .u32 0)
  c1 : w.cell? ⟨b, 1, none⟩ = some (.int .i32 0)
  c3 : w.cell? ⟨b, 3, none⟩ = some .nilIface
  c4 : w.cell? ⟨b, 4, none⟩ = some (.slice (some ⟨q, 0, none⟩) 4 c)
  f0 : w.frozen? ⟨b, 0, none⟩ = false
  f1 : w.frozen? ⟨b, 1, none⟩ = false
  f3 : w.frozen? ⟨b, 3, none⟩ = false
  f4 : w.frozen? ⟨b, 4, none⟩ = false
  row : Four4 w q
  apart : q ≠ b

theorem four_of {T : TypeId} {lo hi : Nat} {w : World} {q c : Nat} (h : Own T lo hi w (some ⟨q, 0, none⟩) c [.string ⟨#[72]⟩, .string ⟨#[65]⟩, .string ⟨#[65]⟩, .string ⟨#[72]⟩]) : Four4 w q := by
  obtain ⟨g0, e0, _, _, c0, _⟩ := h.at_ (k := 0) rfl
  obtain ⟨g1, e1, _, _, c1, _⟩ := h.at_ (k := 1) rfl
  obtain ⟨g2, e2, _, _, c2, _⟩ := h.at_ (k := 2) rfl
  obtain ⟨g3, e3, _, _, c3, _⟩ := h.at_ (k := 3) rfl
  obtain rfl : q = g0 := by injection e0 with e; injection e
  obtain rfl : q = g1 := by injection e1 with e; injection e
  obtain rfl : q = g2 := by injection e2 with e; injection e
  obtain rfl : q = g3 := by injection e3 with e; injection e
  exact ⟨c0, c1, c2, c3⟩
set_option maxHeartbeats 1000000 in
theorem newRep_c (q0 : Nat) (w : World) (h4 : Four4 w q0) : Calls Tryz.prog 50 #[.slice (some ⟨q0, 0, none⟩) 4 4] w fun e w' => ∃ b q c, e = .returned (.pointer (some ⟨b, 0, none⟩)) ∧ w.heap.size ≤ b ∧ Fresh w' b q c ∧ Below w.heap.size w w' := by
  obtain ⟨i0, hi, hz0, hz2, hz3⟩ := info_parts info_str
  have hnews : ∀ (j : Nat) (u : Value), ([.string ⟨#[72]⟩, .string ⟨#[65]⟩, .string ⟨#[65]⟩, .string ⟨#[72]⟩] : List Value)[j]? = some u → w.cell? ((⟨q0, 0, none⟩ : Addr).add j) = some u := by
    intro j u hj
    rw [addr_zero_add]
    obtain ⟨a0, a1, a2, a3⟩ := h4
    match j, hj with
    | 0, hj => obtain rfl := Option.some.inj (show some (Value.string ⟨#[72]⟩) = some u from hj); exact a0
    | 1, hj => obtain rfl := Option.some.inj (show some (Value.string ⟨#[65]⟩) = some u from hj); exact a1
    | 2, hj => obtain rfl := Option.some.inj (show some (Value.string ⟨#[65]⟩) = some u from hj); exact a2
    | 3, hj => obtain rfl := Option.some.inj (show some (Value.string ⟨#[72]⟩) = some u from hj); exact a3
  have Hn := Lib.hid hnews
  clear hnews h4
  go_enter Tryz.func50, Tryz.ntmps50
  go_wp2_with (at_builtin; refine wpList_append_own w rfl _ _ 31 rfl w.heap.size 9 i0 (.string ByteArray.empty) 1 16 Tryz.underlying31 hi hz0 hz2 hz3 rfl (by decide) (.slice none 0 0) 0 [] rfl (World.ownsRow_nil _ _ _ _) ⟨q0, 0, none⟩ 4 4 [.string ⟨#[72]⟩, .string ⟨#[65]⟩, .string ⟨#[65]⟩, .string ⟨#[72]⟩] rfl rfl Hn.out ?c1 ?c2 ?c3 (Nat.le_refl _) ?_)
  case c1 =>
    intro u hu
    simp only [List.mem_cons, List.not_mem_nil, or_false] at hu
    rcases hu with rfl | rfl | rfl | rfl <;> rfl
  case c2 => unfold maxLen; omega
  case c3 => omega
  intro v' w1 hown hgr hne
  obtain ⟨A', c', hv, hl, ho⟩ := Own.of_row hown
  rw [hl] at hv
  subst hv
  have hb1 := (Below.refl w.heap.size w).grown hgr (Nat.le_refl _) (fun k hk => by cases hk)
  obtain ⟨g, rfl, hgl, hgu, _, _⟩ := ho.at_ (k := 0) (u := .string ⟨#[72]⟩) rfl
  have h4 := four_of ho
  clear hown hgr hl
  have Ho := Lib.hid ho
  have Hb1 := Lib.hid hb1
  have H4 := Lib.hid h4
  have Hne := Lib.hid hne
  clear ho hb1 h4 hne
  go_wp2
  go_ret
  refine ⟨w1.heap.size, g, c', rfl, Hb1.out.size, ?_, Hb1.out.alloc Hb1.out.size _⟩
  obtain ⟨a0, a1, a2, a3⟩ := H4.out
  have hk : Keep w1 (w1.alloc (.cells #[.int .u32 0, .int .i32 0, .int .u32 0, .nilIface, .slice (some ⟨g, 0, none⟩) 4 c'] 95)) := keep_of_below ((Below.refl _ _).alloc (Nat.le_refl _) _)
  exact ⟨by simp, by simp, by simp, by simp, by simp, by simp, by simp, by simp, by simp, ⟨hk _ _ a0, hk _ _ a1, hk _ _ a2, hk _ _ a3⟩, by omega⟩

theorem below_drT (B : Nat) (w : World) : Below B w w.drew := ⟨rfl, rfl, rfl, Nat.le_refl _, fun _ _ => rfl⟩
theorem method_rep (a : Addr) (w : World) : (method 290 116 (.pointer (some a)) "Replace").run Tryz.prog w = .ok (145, .pointer (some a)) w := by kernel_rfl
set_option maxRecDepth 100000 in
set_option maxHeartbeats 1000000 in
theorem replace_c (b q c : Nat) (s : ByteArray) (w : World) (hf : Fresh w b q c) (hok : patOk s = true) :
    Calls Tryz.prog 51 #[.pointer (some ⟨b, 0, none⟩), .string s] w fun e w' => e = .returned (.string (flipS s)) ∧ Below b w w' := by
  obtain ⟨hlt, h0, h1, h3, h4, f0, f1, f3, f4, ⟨a0, a1, a2, a3⟩, hqb⟩ := hf
  have hmf : ∀ (fn : Fn) (first cap : Array Value) (w : World), (Instr.makeFunc fn first cap).run Tryz.prog w = .ok (.func fn first cap) w := fun _ _ _ _ => rfl
  have eg := enters_of Tryz.func63 (by kernel_rfl) rfl
  have ne1 : ∀ j, j ≠ 1 → (⟨b, 1, none⟩ : Addr) ≠ ⟨b, j, none⟩ := fun j hj e => hj (by injection e with _ e; exact e.symm)
  have neq : ∀ j, (⟨b, 1, none⟩ : Addr) ≠ ⟨q, j, none⟩ := fun j e => hqb (by injection e with e; exact e.symm)
  have hbo := buildOnce_c b q c (w.setCell ⟨b, 1, none⟩ (.int .i32 1)) (.int .u32 0) (.int .i32 1) .nilIface (by simpa [World.setCell] using hlt)
    ((World.cell?_setCell_other _ _ _ _ (ne1 0 (by decide))).trans h0) (World.cell?_setCell_same _ _ _ h1) ((World.cell?_setCell_other _ _ _ _ (ne1 3 (by decide))).trans h3) ((World.cell?_setCell_other _ _ _ _ (ne1 4 (by decide))).trans h4)
    (by simpa using f0) (by simpa using f1) (by simpa using f3) (by simpa using f4)
    ⟨(World.cell?_setCell_other _ _ _ _ (neq 0)).trans a0, (World.cell?_setCell_other _ _ _ _ (neq 1)).trans a1, (World.cell?_setCell_other _ _ _ _ (neq 2)).trans a2, (World.cell?_setCell_other _ _ _ _ (neq 3)).trans a3⟩
  have hdo := do_c b 63 (fun w' => ∃ g, w'.cell? ⟨b, 3, none⟩ = some (.iface 116 (.pointer (some ⟨g, 0, none⟩))) ∧ g < w'.heap.size ∧ Tab w' g ∧ Below b w w') w eg h0 h1 f0 f1
    (hbo.mono fun e w' ⟨he, c0, c1, z0, z1, g, c3, hg, hbg, ht, hb⟩ => ⟨he, c0, c1, z0, z1, g, by simp [go_sem, c3], by simpa [World.setCell] using hg, fun x hx => (World.cell?_setCell_other _ ⟨b, 1, none⟩ ⟨g, x, none⟩ _ (by simp only [ne_eq, Addr.mk.injEq]; omega)).trans ((World.cell?_setCell_other _ ⟨b, 0, none⟩ ⟨g, x, none⟩ _ (by simp only [ne_eq, Addr.mk.injEq]; omega)).trans (ht x hx)),
      (((((Below.refl b w).setCell (p := ⟨b, 1, none⟩) (Nat.le_refl _) _).trans hb).trans (below_drT b w')).setCell (p := ⟨b, 0, none⟩) (Nat.le_refl _) _).setCell (p := ⟨b, 1, none⟩) (Nat.le_refl _) _⟩)
  have hme := method_rep
  have egr := enters_of Tryz.func145 (by kernel_rfl) rfl
  have Hdo := Lib.hid hdo
  have Eg := Lib.hid eg
  clear hdo eg
  clear h0 h1 h3 h4 f0 f1 f3 f4 a0 a1 a2 a3 ne1 neq hbo hqb
  go_enter Tryz.func51, Tryz.ntmps51
  go_wp2_with (go_at_call 62; refine Hdo.out.mono ?_; rintro e w1 ⟨rfl, g, c3, hg, ht, hb⟩)
  have Hg := Lib.hid hg
  have Ht := Lib.hid ht
  have Hb := Lib.hid hb
  clear hg ht hb
  go_wp2_with fail
  refine (byteRep_c g s w1 Ht.out Hg.out hok).mono ?_
  rintro e w2 ⟨rfl, hb2⟩
  have hb3 := Hb.out.trans (hb2.mono (Nat.le_trans (Nat.le_of_lt hlt) Hb.out.size))
  go_wp2
  go_ret
  exact ⟨rfl, hb3⟩

/-- The other pattern: home and away exchanged. -/
def otherF (s : ByteArray) : ByteArray := if patOk s = true then flipS s else ⟨#[]⟩
set_option maxHeartbeats 1000000 in
theorem iOtherPattern_c (s : ByteArray) (w : World) : Calls Tryz.prog 21 #[.string s] w (Gives w (.string (otherF s))) := by
  cases h1 : patOk s
  · have hR : otherF s = ⟨#[]⟩ := by rw [otherF, if_neg (by rw [h1]; decide)]
    rw [hR]
    have H1 := Lib.hid h1
    have HR := Lib.hid hR
    clear h1 hR
    go_enter Tryz.func21, Tryz.ntmps21
    go_wp2_with fail
    refine (calls_v (iPatternOk_c _ _) (congrArg Value.bool H1.out)).mono ?_
    rintro e w1 ⟨rfl, hq⟩
    go_wp2
    go_ret
    exact ⟨rfl, hq.below _⟩
  · have hR : otherF s = flipS s := by rw [otherF, if_pos h1]
    rw [hR]
    have H1 := Lib.hid h1
    have HR := Lib.hid hR
    clear h1 hR
    go_enter Tryz.func21, Tryz.ntmps21
    go_wp2_with fail
    refine (calls_v (iPatternOk_c _ _) (congrArg Value.bool H1.out)).mono ?_
    rintro e w1 ⟨rfl, hq⟩
    have Hq := Lib.hid hq
    clear hq
    go_wp2_with fail
    refine (newRep_c w1.heap.size _ ?_).mono ?_
    · exact ⟨by simp, by simp, by simp, by simp⟩
    rintro e w2 ⟨b, q, c, rfl, hbz, hfr, hb2⟩
    have Hfr := Lib.hid hfr
    have Hb2 := Lib.hid hb2
    clear hfr hb2
    go_wp2_with fail
    refine (replace_c b q c s w2 Hfr.out H1.out).mono ?_
    rintro e w3 ⟨rfl, hb3⟩
    have hz : w1.heap.size + 1 ≤ b := by simpa using hbz
    have ha : Below w1.heap.size w1 (w1.alloc (.cells #[.string ⟨#[72]⟩, .string ⟨#[65]⟩, .string ⟨#[65]⟩, .string ⟨#[72]⟩] 9)) := (Below.refl _ _).alloc (Nat.le_refl _) _
    have h12 := ha.trans (Hb2.out.mono (by simp))
    have h13 := h12.trans (hb3.mono (by omega))
    have hfin := (Hq.out.below w.heap.size).trans (h13.mono (Hq.out.below 0).size)
    have Hfin := Lib.hid hfin
    clear hfin
    clear hb3 hz hbz ha h12 h13
    go_wp2
    go_ret
    exact ⟨rfl, Hfin.out⟩
end Go.Proofs.YtfkccgblgjpalaaGreat
