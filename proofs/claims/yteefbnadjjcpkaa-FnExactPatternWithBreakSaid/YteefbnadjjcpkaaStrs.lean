/- Contracts: the laws' helpers over slices of strings. -/
import Derived.Test.YteefbnadjjcpkaaOpen
import Derived.Deep.Strs
namespace Go.Proofs.Yteefbnadjjcpkaa
open Go.RowKit

def Strs (w : World) (A : Option Addr) (ss : List ByteArray) : Prop := ∀ k u, ss[k]? = some u → ∃ ad, A = some ad ∧ w.cell? (ad.add k) = some (.string u)
theorem Strs.keep {w w' : World} {A : Option Addr} {ss : List ByteArray} (h : Strs w A ss) (k : Keep w w') : Strs w' A ss := fun i u hu => by
  obtain ⟨ad, e, hc⟩ := h i u hu
  exact ⟨ad, e, k _ _ hc⟩
theorem Strs.nil (w : World) (A : Option Addr) : Strs w A [] := fun _ _ h => by simp at h
theorem Own.strs {T : TypeId} {lo hi : Nat} {w : World} {A : Option Addr} {c : Nat} {ss : List ByteArray} (h : Own T lo hi w A c (ss.map .string)) : Strs w A ss := fun k u hu => by
  obtain ⟨g, rfl, _, _, hc, _⟩ := h.at_ (map_some hu)
  exact ⟨_, rfl, by rw [addr_zero_add]; exact hc⟩
theorem info_str : (Try.prog.info? 9).map (fun i => (i.zero, i.size, i.bytes)) = some (some (.string ByteArray.empty), 1, 16) := by kernel_rfl
/-- A new row of strings comes back. -/
def GivesS (T : TypeId) (w : World) (ss : List ByteArray) (e : Ending) (w' : World) : Prop :=
  ∃ A c, e = .returned (.slice A ss.length c) ∧ Own T w.heap.size w'.heap.size w' A c (ss.map .string) ∧ Below w.heap.size w w'

section
variable {H : Type} {enc : TypeId × Value → H} {W : World}
theorem open_strl {t e : TypeId} {a : Option Addr} {len cap : Nat} {d : DataW H} {p : List MemPlace} (ht : Try.prog.underlying t = some (.slice e)) (he : Try.prog.underlying e = some .string) (ce : Try.prog.cellsOf e = 1)
    (h : DataW.Trod enc Try.prog W 0 (fun _ => true) true t (.slice a len cap) d p) :
    ∃ ss : List ByteArray, ss.length = len ∧ Strs W a ss ∧ len ≤ cap ∧ cap ≤ maxLen ∧ ∀ s ∈ ss, s.size ≤ maxLen := by
  obtain ⟨fuel, hf⟩ := h
  rcases Go.Deep.open_strs ht he ce hf with ⟨hcs, _⟩ | ⟨x, l, c, m, S, hcs, _, hl, hm, hmm, _, hcell⟩
  · simp [Value.cells] at hcs
    obtain ⟨rfl, rfl, rfl⟩ := hcs
    exact ⟨[], rfl, Strs.nil _ _, Nat.le_refl _, Nat.zero_le _, fun x h => by simp at h⟩
  · simp [Value.cells] at hcs
    obtain ⟨rfl, rfl, rfl⟩ := hcs
    simp only [if_true] at hmm
    refine ⟨(List.range len).map S, by simp, fun k u hk => ?_, hl, hm, fun s hs => ?_⟩
    · obtain ⟨r, hr, rfl⟩ := some_map hk
      have hkl : k < len := by have := lt_of hk; simpa using this
      obtain rfl : k = r := by rw [List.getElem?_range hkl] at hr; injection hr
      exact ⟨x, rfl, (hcell k (by omega)).1⟩
    · obtain ⟨r, hr, rfl⟩ := List.mem_map.1 hs
      have hrl : r < len := by simpa using hr
      exact (hcell r (by omega)).2
end

def szS : List ByteArray → Int → Int
  | [], l => l
  | s :: r, l => if l - s.size < 0 then -1 else szS r (l - s.size)
def szStrs (ss : List ByteArray) (l : Int) : Int := if l - ss.length < 0 then -1 else szS ss (l - ss.length)
def totS : List ByteArray → Nat
  | [] => 0
  | s :: r => s.size + totS r
def BdS (ss : List ByteArray) : Prop := ss.length ≤ 1048576 ∧ ∀ s ∈ ss, s.size ≤ 1048576
theorem szS_bound : ∀ (ss : List ByteArray) (l : Int), 0 ≤ szS ss l → ∀ s ∈ ss, (s.size : Int) ≤ l
  | [], l, h => fun s h => by simp at h
  | s :: r, l, h => by
    simp only [szS] at h
    split at h
    · omega
    · have h2 := szS_bound r _ h
      intro y hy
      rcases List.mem_cons.1 hy with rfl | hy
      · omega
      · have := h2 y hy; omega
theorem bdS_of {ss : List ByteArray} {l : Int} (hl : l ≤ 1048576) (h : 0 ≤ szStrs ss l) : BdS ss := by
  unfold szStrs at h
  split at h
  · omega
  · exact ⟨by omega, fun s hs => by have := szS_bound ss _ h s hs; omega⟩
theorem szS_le : ∀ (ss : List ByteArray) (l : Int), szS ss l ≤ max l (-1)
  | [], l => by simp only [szS]; omega
  | s :: r, l => by
    simp only [szS]
    split
    · omega
    · have := szS_le r (l - s.size); omega
theorem szStrs_le (ss : List ByteArray) (l : Int) : szStrs ss l ≤ max l (-1) := by
  unfold szStrs
  split
  · omega
  · have := szS_le ss (l - ss.length); omega

set_option maxHeartbeats 400000 in
theorem szStringS_c (A : Option Addr) (c : Nat) (ss : List ByteArray) (l : Int) (w : World) (hr : Strs w A ss) (hn : ss.length ≤ maxLen) (hz : ∀ s ∈ ss, s.size ≤ maxLen) (h0 : 0 ≤ l) (h1 : l ≤ 1048576) :
    Calls Try.prog 17 #[.slice A ss.length c, .int .i64 l] w (Quiet w (.int .i64 (szStrs ss l))) := by
  unfold maxLen at hn
  generalize hR : szStrs ss l = R
  have HR := Lib.hid hR
  clear hR
  have Hr := Lib.hid hr
  have Hz := Lib.hid hz
  clear hr hz
  by_cases h : l < ss.length
  · go_enter Try.func17, Try.ntmps17
    go_wp2
    go_ret
    exact ⟨ret_int (by rw [← HR.out]; unfold szStrs; split <;> (first | rfl | omega)), Dr.refl _⟩
  · have h' : ¬ l - (ss.length : Int) < 0 := by omega
    have HR1 : Hid (szS (ss.drop 0) (l - ss.length) = R) := Lib.hid (by rw [← HR.out]; unfold szStrs; rw [if_neg h']; rfl)
    go_enter Try.func17, Try.ntmps17
    go_wp2
    go_loopw [1, 5] (fun m i wr => ∃ (k : Nat) (z : Int), k ≤ ss.length ∧ i = .int .i64 k ∧ m = .int .i64 z ∧ 0 ≤ z ∧ z ≤ 1048576 ∧ szS (ss.drop k) z = R ∧ Dr w wr) (fun _ i _ => ss.length - (intOf i).toNat)
    case atStart => exact ⟨0, l - ss.length, Nat.zero_le _, rfl, rfl, by omega, by omega, HR1.out, Dr.refl _⟩
    case round =>
      obtain ⟨k, z, hk, rfl, rfl, hz0, hz1, hR, hd⟩ := hrel
      have HR := Lib.hid hR
      have Hd := Lib.hid hd
      clear hR hd
      by_cases hlt : k < ss.length
      · obtain ⟨s, hx⟩ := some_of hlt
        obtain ⟨ad, rfl, hc⟩ := Hr.out.keep Hd.out.keep k s hx
        have hsm := Hz.out s (List.mem_of_getElem? hx)
        unfold maxLen at hsm
        have HS : Hid ((if z - (s.size : Int) < 0 then -1 else szS (ss.drop (k + 1)) (z - s.size)) = R) := Lib.hid (by have := HR.out; rwa [drop_of hx, szS] at this)
        have Hx := Lib.hid hx
        clear hx
        by_cases hs : z - (s.size : Int) < 0
        · have HS2 : Hid (-1 = R) := Lib.hid (by have := HS.out; rwa [if_pos hs] at this)
          go_wp2
          go_ret
          exact ⟨ret_int HS2.out, Hd.out⟩
        · have HS2 : Hid (szS (ss.drop (k + 1)) (z - s.size) = R) := Lib.hid (by have := HS.out; rwa [if_neg hs] at this)
          go_wp2
          go_roundw
          case rel => exact ⟨k + 1, z - s.size, by omega, by go_num, by go_num, by omega, by omega, HS2.out, Hd.out⟩
          case measure => simp [intOf]; omega
      · have HS : Hid (z = R) := Lib.hid (by have := HR.out; rwa [List.drop_of_length_le (by omega), szS] at this)
        go_wp2
        go_ret
        exact ⟨ret_int HS.out, Hd.out⟩

set_option maxHeartbeats 400000 in
theorem eqStringS_c (A B : Option Addr) (c d : Nat) (xs : List ByteArray) (w : World) (ha : Strs w A xs) (hb : Strs w B xs) (hm : xs.length ≤ 1048576) :
    Calls Try.prog 21 #[.slice A xs.length c, .slice B xs.length d] w (Quiet w (.bool true)) := by
  have Ha := Lib.hid ha
  have Hb := Lib.hid hb
  clear ha hb
  go_enter Try.func21, Try.ntmps21
  go_wp2
  go_loopw [5] (fun i wr => ∃ k : Nat, k ≤ xs.length ∧ i = .int .i64 k ∧ Dr w wr) (fun i _ => xs.length - (intOf i).toNat)
  case atStart => exact ⟨0, Nat.zero_le _, rfl, Dr.refl _⟩
  case round =>
    obtain ⟨k, hk, rfl, hd⟩ := hrel
    have Hd := Lib.hid hd
    clear hd
    by_cases hlt : k < xs.length
    · obtain ⟨x, hx⟩ := some_of hlt
      obtain ⟨ad, rfl, hca⟩ := Ha.out.keep Hd.out.keep k x hx
      obtain ⟨bd, rfl, hcb⟩ := Hb.out.keep Hd.out.keep k x hx
      have Hx := Lib.hid hx
      clear hx
      go_wp2
      go_quiet (fail)
      go_wp2
      go_roundw
      case rel => exact ⟨k + 1, by omega, by go_num, Hd.out.dN _⟩
      case measure => simp [intOf]; omega
    · go_wp2
      go_ret
      exact ⟨rfl, Hd.out⟩

set_option maxHeartbeats 400000 in
theorem toStringS_c (A : Option Addr) (c : Nat) (xs : List ByteArray) (w : World) (ha : Strs w A xs) (hm : xs.length ≤ 1048576) :
    Calls Try.prog 19 #[.slice A xs.length c] w (GivesS 9 w xs) := by
  have hmk := fun W => run_make_row' (P := Try.prog) 24 9 (.string ByteArray.empty) 16 Try.underlying24 info_str rfl .i64 .i64 xs.length (by omega) (by omega) W
  have hm' : xs.length ≤ maxLen := by unfold maxLen; omega
  have Ha := Lib.hid ha
  have Hm := Lib.hid hm'
  clear ha hm'
  go_enter Try.func19, Try.ntmps19
  go_wp2
  go_loopw [4] (fun i wr => ∃ k : Nat, k ≤ xs.length ∧ i = .int .i64 k ∧ Own 9 w.heap.size (w.heap.size + 1) wr (some ⟨w.heap.size, 0, none⟩) xs.length ((xs.map Value.string).take k ++ (List.replicate xs.length (.string ByteArray.empty)).drop k) ∧ Below w.heap.size w wr ∧ w.heap.size < wr.heap.size) (fun i _ => xs.length - (intOf i).toNat)
  case atStart => exact ⟨0, Nat.zero_le _, rfl, own_made _ _ _ _ _ (Nat.le_refl _) Hm.out, (Below.refl _ _).alloc (Nat.le_refl _) _, by simp⟩
  case round =>
    obtain ⟨k, hk, rfl, hown, hb, hz⟩ := hrel
    have Hown := Lib.hid hown
    have Hb := Lib.hid hb
    clear hown hb
    by_cases hlt : k < xs.length
    · obtain ⟨x, hx⟩ := some_of hlt
      obtain ⟨ad, rfl, hca⟩ := Ha.out.keep (keep_of_below Hb.out) k x hx
      obtain ⟨g, hg, _, _, hcb, hfb⟩ := Hown.out.at_ (k := k) (u := .string ByteArray.empty) (by rw [fill_at (by simp; omega)]; simp [hlt])
      obtain rfl : w.heap.size = g := by injection hg with hg; injection hg
      have Hx := Lib.hid hx
      clear hx
      clear hg
      go_wp2
      go_roundw
      case rel => exact ⟨k + 1, by omega, by go_num, by rw [← fill_step (map_some Hx.out) (by simpa using hlt)]; exact Hown.out.set_ k _, Hb.out.setCell (Nat.le_refl _) _, by simpa [World.setCell] using hz⟩
      case measure => simp [intOf]; omega
    · obtain rfl : k = xs.length := by omega
      go_wp2
      go_ret
      refine ⟨_, _, rfl, ?_, Hb.out⟩
      have := Hown.out
      rw [List.take_of_length_le (by simp), List.drop_eq_nil_of_le (by simp), List.append_nil] at this
      exact this.wide (Nat.le_refl _) hz

end Go.Proofs.Yteefbnadjjcpkaa
