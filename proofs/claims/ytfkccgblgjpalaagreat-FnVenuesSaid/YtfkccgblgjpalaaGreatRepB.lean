
/- Contracts: a table of bytes that exchanges two letters, used (byteReplacer.Replace). -/
import Derived.Test.YtfkccgblgjpalaaGreatPat
import Derived.Deep.WholeRow
import Derived.Lib.ConvBytes
import Derived.Laws.BytesArg
import Derived.WalkSpells
namespace Go.Proofs.YtfkccgblgjpalaaGreat
open Go.RowKit
set_option linter.unusedVariables false
set_option linter.unusedSimpArgs false

def swapB (c : Nat) : Nat := if c = 65 then 72 else if c = 72 then 65 else c
/-- The table, in a block. -/
def Tab (w : World) (g : Nat) : Prop := ∀ c, c < 256 → w.cell? ⟨g, c, none⟩ = some (.int .u8 (swapB c : Nat))
theorem Tab.keep {w w' : World} {g : Nat} (h : Tab w g) (k : Keep w w') : Tab w' g := fun c hc => k _ _ (h c hc)
def flipS (s : ByteArray) : ByteArray := strOfNums (s.data.toList.map fun c => ((swapB c.toNat : Nat) : Int))
theorem flipS_size (s : ByteArray) : (flipS s).size = s.size := by rw [flipS, strOfNums_size, List.length_map, bytes_len]
theorem flipS_none {s : ByteArray} (h : s.size = 0) : flipS s = s := by
  have hl : s.data.toList = [] := List.eq_nil_of_length_eq_zero (by rw [bytes_len]; exact h)
  apply ByteArray.ext
  apply Array.ext'
  rw [flipS, strOfNums_data, hl]; rfl
theorem pat_at {s : ByteArray} (h : patOk s = true) {k : Nat} (hk : k < s.size) : s[k].toNat = 72 ∨ s[k].toNat = 65 := by
  simp only [patOk, Bool.and_eq_true] at h
  exact (isHA_iff _).1 (List.all_eq_true.1 h.2 _ (List.mem_of_getElem? (bytes_at s k hk)))
theorem swap_ne {x : Nat} (h : x = 72 ∨ x = 65) : swapB x ≠ x ∧ swapB x < 256 := by
  rcases h with rfl | rfl <;> decide
/-- The row of the result, k bytes already exchanged. -/
def Half (G n k : Nat) (s : ByteArray) (w : World) : Prop :=
  ∀ j (hj : j < s.size), w.cell? ⟨G, j, none⟩ = some (.int .u8 (if j < k then (swapB s[j].toNat : Nat) else s[j].toNat : Nat)) ∧ w.frozen? ⟨G, j, none⟩ = false
theorem Half.set_ {G n k : Nat} {s : ByteArray} {w : World} (h : Half G n k s w) (hk : k < s.size) : Half G n (k + 1) s (w.setCell ⟨G, k, none⟩ (.int .u8 (swapB s[k].toNat : Nat))) := fun j hj => by
  by_cases e : k = j
  · subst e
    refine ⟨?_, by simpa using (h k hj).2⟩
    rw [if_pos (by omega)]
    exact World.cell?_setCell_same _ _ _ (h k hj).1
  · refine ⟨?_, by simpa using (h j hj).2⟩
    rw [World.cell?_setCell_other _ _ _ _ (by simp only [ne_eq, Addr.mk.injEq]; omega), (h j hj).1]
    by_cases h1 : j < k
    · rw [if_pos h1, if_pos (by omega)]
    · rw [if_neg h1, if_neg (by omega)]
theorem half_made (w : World) (s : ByteArray) (n : Nat) : Half w.heap.size n 0 s (Lib.bytesWorld w 5 s) := fun j hj => by
  refine ⟨?_, ?_⟩
  · rw [Lib.bytesWorld_cell w 5 s j hj, if_neg (by omega), List.getD_eq_getElem?_getD, bytes_at s j hj]; rfl
  · have h := Lib.bytesWorld_at_new w 5 s
    have hsz : s.size ≤ (Lib.bytesCells w 5 s).size := by simp [Lib.bytesCells]
    simp only [World.frozen?, h]
    simp; omega
theorem bytesWorld_below (w : World) (s : ByteArray) : Below w.heap.size w (Lib.bytesWorld w 5 s) :=
  ⟨by simp [Lib.bytesWorld, World.freeze, World.alloc, World.drew, -World.alloc_eq, -World.drew_eq], by simp [Lib.bytesWorld, World.freeze, World.alloc, World.drew, -World.alloc_eq, -World.drew_eq],
   by simp [Lib.bytesWorld, World.freeze, World.alloc, World.drew, -World.alloc_eq, -World.drew_eq], by rw [Lib.bytesWorld_size]; omega, fun k hk => Lib.bytesWorld_at_old w 5 s k hk⟩

set_option maxHeartbeats 2000000 in
theorem byteRep_c (g : Nat) (s : ByteArray) (w : World) (ht : Tab w g) (hg : g < w.heap.size) (hok : patOk s = true) :
    Calls Tryz.prog 145 #[.pointer (some ⟨g, 0, none⟩), .string s] w (Gives w (.string (flipS s))) := by
  have h36 : s.size ≤ 36 := by have h := hok; simp only [patOk, Bool.and_eq_true, decide_eq_true_eq] at h; exact h.1
  have hcv := fun (W : World) => Lib.run_convert_string_bytes (P := Tryz.prog) W 9 22 5 s Tryz.underlying9 Tryz.underlying22 Tryz.underlying5
  have hnil := fun (W : World) (a : Option Addr) (n c n' c' : Nat) => Lib.run_eql_slice_nil (P := Tryz.prog) W 22 5 a n c n' c' Tryz.underlying22
  obtain ⟨R, hR⟩ : ∃ R, flipS s = R := ⟨_, rfl⟩
  rw [hR]
  have Ht := Lib.hid ht
  have Hok := Lib.hid hok
  have HR := Lib.hid hR
  clear ht hok hR
  go_enter Tryz.func145, Tryz.ntmps145
  go_wp2
  go_loopw [5, 6] (fun b i wr => ∃ k : Nat, k ≤ s.size ∧ i = .int .i64 k ∧ ((k = 0 ∧ b = .slice none 0 0 ∧ Dr w wr) ∨ ∃ G c, b = .slice (some ⟨G, 0, none⟩) s.size c ∧ 0 < s.size ∧ w.heap.size ≤ G ∧ G < wr.heap.size ∧ s.size ≤ c ∧ Half G 0 k s wr ∧ Below w.heap.size w wr)) (fun _ i _ => s.size - (intOf i).toNat)
  case atStart => exact ⟨0, Nat.zero_le _, rfl, .inl ⟨rfl, rfl, Dr.refl _⟩⟩
  case round =>
    obtain ⟨k, hk, rfl, hcase⟩ := hrel
    by_cases hlt : k < s.size
    · have hlti : (k : Int) < (s.size : Int) := by omega
      have hx := pat_at Hok.out hlt
      obtain ⟨x, hxe⟩ : ∃ x, s[k].toNat = x := ⟨_, rfl⟩
      rw [hxe] at hx
      obtain ⟨y, hy⟩ : ∃ y, swapB x = y := ⟨_, rfl⟩
      have hxy := swap_ne hx
      rw [hy] at hxy
      have hx256 : x < 256 := by omega
      have hne : ((y : Int) != (x : Int)) = true := by simp; omega
      have hne2 : ((x : Int) == (y : Int)) = false := by simp; omega
      rcases hcase with ⟨rfl, rfl, hd⟩ | ⟨G, c, rfl, h0, hG, hGz, hc, hh, hb⟩
      · have hct : wr.cell? ⟨g, x, none⟩ = some (.int .u8 (y : Nat)) := by have := (Ht.out.keep hd.keep) x hx256; rwa [hy] at this
        have hm := half_made wr s 0
        have hbw := bytesWorld_below wr s
        have hct2 := keep_of_below hbw _ _ hct
        obtain ⟨c0, z0⟩ := hm 0 hlt
        have hsz := Lib.bytesWorld_size wr 5 s
        have hwz : w.heap.size ≤ wr.heap.size := (hd.below 0).size
        have hcv1 := hcv wr
        generalize Lib.bytesWorld wr 5 s = wb at hcv1 hm hbw hct2 c0 z0 hsz
        have Hd := Lib.hid hd
        have Hm := Lib.hid hm
        have Hbw := Lib.hid hbw
        have Hy := Lib.hid hy
        have Hsz := Lib.hid hsz
        clear hd hm hbw hy hsz
        clear hx hxy hcv
        go_wp2
        go_roundw
        case rel => exact ⟨1, by omega, by go_num, .inr ⟨_, _, rfl, hlt, hwz, by have := Hsz.out; simp [World.setCell]; omega, grownCap_ge _ _ _ _, by have h := Hm.out.set_ (k := 0) hlt; rw [hxe, Hy.out] at h; exact h, (Hd.out.below _ |>.trans (Hbw.out.mono hwz)).setCell hwz _⟩⟩
        case measure => simp [intOf]; omega
      · have hct : wr.cell? ⟨g, x, none⟩ = some (.int .u8 (y : Nat)) := by have := (Ht.out.keep (keep_of_below hb)) x hx256; rwa [hy] at this
        obtain ⟨c0, z0⟩ := hh k hlt
        rw [if_neg (by omega), hxe] at c0
        have hs := hh.set_ (k := k) hlt
        rw [hxe, hy] at hs
        have Hs := Lib.hid hs
        have Hh := Lib.hid hh
        have Hb := Lib.hid hb
        have Hy := Lib.hid hy
        clear hs hh hb hy
        clear hx hxy hcv
        go_wp2
        go_roundw
        case rel => exact ⟨k + 1, by omega, by go_num, .inr ⟨G, c, rfl, h0, hG, by simpa [World.setCell] using hGz, hc, Hs.out, Hb.out.setCell hG _⟩⟩
        case measure => simp [intOf]; omega
    · obtain rfl : k = s.size := by omega
      rcases hcase with ⟨h0, rfl, hd⟩ | ⟨G, c, rfl, h0, hG, hGz, hc, hh, hb⟩
      · have hRs : R = s := by rw [← HR.out]; exact flipS_none h0
        subst hRs
        have H0 := Lib.hid h0
        have Hd := Lib.hid hd
        clear h0 hd
        clear hcv
        go_wp2
        go_ret
        exact ⟨rfl, Hd.out.below _⟩
      · have hback := run_convert_bytes_arg (P := Tryz.prog) wr 22 5 Tryz.underlying22 Tryz.underlying5 G 0 s.size c (s.data.toList.map fun c => ((swapB c.toNat : Nat) : Int)) (by rw [List.length_map, bytes_len]) (fun i hi => by
          rw [Nat.zero_add, (hh i hi).1, if_pos hi, List.getD_eq_getElem?_getD, List.getElem?_map, bytes_at s i hi]; rfl) 9 Tryz.underlying9
        have hRs : strOfNums (s.data.toList.map fun c => ((swapB c.toNat : Nat) : Int)) = R := HR.out
        rw [hRs] at hback
        have Hh := Lib.hid hh
        have Hb := Lib.hid hb
        have HRs := Lib.hid hRs
        clear hh hb hRs
        clear hcv
        go_wp2
        go_ret
        exact ⟨rfl, Hb.out⟩
end Go.Proofs.YtfkccgblgjpalaaGreat
