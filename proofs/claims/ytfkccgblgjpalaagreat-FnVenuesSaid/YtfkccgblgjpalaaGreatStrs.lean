
/- Contracts: the laws' helpers over slices of strings. -/
import Derived.Test.YtfkccgblgjpalaaGreatOpen
import Derived.Deep.Strs
namespace Go.Proofs.YtfkccgblgjpalaaGreat
open Go.RowKit

def Strs (w : World) (A : Option Addr) (ss : List ByteArray) : Prop := ∀ k u, ss[k]? = some u → ∃ ad, A = some ad ∧ w.cell? (ad.add k) = some (.string u)
theorem Strs.keep {w w' : World} {A : Option Addr} {ss : List ByteArray} (h : Strs w A ss) (k : Keep w w') : Strs w' A ss := fun i u hu => by
  obtain ⟨ad, e, hc⟩ := h i u hu
  exact ⟨ad, e, k _ _ hc⟩
theorem Strs.nil (w : World) (A : Option Addr) : Strs w A [] := fun _ _ h => by simp at h
theorem Own.strs {T : TypeId} {lo hi : Nat} {w : World} {A : Option Addr} {c : Nat} {ss : List ByteArray} (h : Own T lo hi w A c (ss.map .string)) : Strs w A ss := fun k u hu => by
  obtain ⟨g, rfl, _, _, hc, _⟩ := h.at_ (map_some hu)
  exact ⟨_, rfl, by rw [addr_zero_add]; exact hc⟩
theorem info_str : (Tryz.prog.info? 9).map (fun i => (i.zero, i.size, i.bytes)) = some (some (.string ByteArray.empty), 1, 16) := by kernel_rfl
/-- A new row of strings comes back. -/
def GivesS (T : TypeId) (w : World) (ss : List ByteArray) (e : Ending) (w' : World) : Prop :=
  ∃ A c, e = .returned (.slice A ss.length c) ∧ Own T w.heap.size w'.heap.size w' A c (ss.map .string) ∧ Below w.heap.size w w'

section
variable {H : Type} {enc : TypeId × Value → H} {W : World}
theorem open_strl {t e : TypeId} {a : Option Addr} {len cap : Nat} {d : DataW H} {p : List MemPlace} (ht : Tryz.prog.underlying t = some (.slice e)) (he : Tryz.prog.underlying e = some .string) (ce : Tryz.prog.cellsOf e = 1)
    (h : DataW.Trod enc Tryz.prog W 0 (fun _ => true) true t (.slice a len cap) d p) :
    ∃ ss : List ByteArray, ss.length = len ∧ Strs W a ss ∧ len ≤ cap ∧ cap ≤ maxLen ∧ ∀ s ∈ ss, s.size ≤ maxLen := by
  obtain ⟨fuel, hf⟩ := h
  rcases Go.Deep.open_strs ht he ce hf with ⟨hcs, _⟩ | ⟨x, l, c, m, S, hcs, _, hl, hm, hmm, _, hcell⟩
  · simp [Value.cells] at hcs
    obtain ⟨rfl, rfl, rfl⟩ := hcs
    exact ⟨[], rfl, Strs.nil _ _, Nat.le_refl _, Nat.zero_le _, fun x h => by simp at h⟩
  · simp [Value.cells] at hcs
    obtain ⟨rfl, rfl, rfl⟩ := hcs
    simp only [if_true] at hmm
    refine ⟨(List.range len).map S, by simp, fun k u hk => ?_, hl, hm, fun s hs => ?_⟩
    · obtain ⟨r, hr, rfl⟩ := some_map hk
      have hkl : k < len := by have := lt_of hk; simpa using this
      obtain rfl : k = r := by rw [List.getElem?_range hkl] at hr; injection hr
      exact ⟨x, rfl, (hcell k (by omega)).1⟩
    · obtain ⟨r, hr, rfl⟩ := List.mem_map.1 hs
      have hrl : r < len := by simpa using hr
      exact (hcell r (by omega)).2
end

def szS : List ByteArray → Int → Int
  | [], l => l
  | s :: r, l => if l - s.size < 0 then -1 else szS r (l - s.size)
def szStrs (ss : List ByteArray) (l : Int) : Int := if l - ss.length < 0 then -1 else szS ss (l - ss.length)
def totS : List ByteArray → Nat
  | [] => 0
  | s :: r => s.size + totS r
def BdS (ss : List ByteArray) : Prop := ss.length ≤ 1048576 ∧ ∀ s ∈ ss, s.size ≤ 1048576
theorem szS_bound : ∀ (ss : List ByteArray) (l : Int), 0 ≤ szS ss l → ∀ s ∈ ss, (s.size : Int) ≤ l
  | [], l, h => fun s h => by simp at h
  | s :: r, l, h => by
    simp only [szS] at h
    split at h
    · omega
    · have h2 := szS_bound r _ h
      intro y hy
      rcases List.mem_cons.1 hy with rfl | hy
      · omega
      · have := h2 y hy; omega
theorem bdS_of {ss : List ByteArray} {l : Int} (hl : l ≤ 1048576) (h : 0 ≤ szStrs ss l) : BdS ss := by
  unfold szStrs at h
  split at h
  · omega
  · exact ⟨by omega, fun s hs => by have := szS_bound ss _ h s hs; omega⟩
theorem szS_le : ∀ (ss : List ByteArray) (l : Int), szS ss l ≤ max l (-1)
  | [], l => by simp only [szS]; omega
  | s :: r, l => by
    simp only [szS]
    split
    · omega
    · have := szS_le r (l - s.size); omega
theorem szStrs_le (ss : List ByteArray) (l : Int) : szStrs ss l ≤ max l (-1) := by
  unfold szStrs
  split
  · omega
  · have := szS_le ss (l - ss.length); omega

end Go.Proofs.YtfkccgblgjpalaaGreat
