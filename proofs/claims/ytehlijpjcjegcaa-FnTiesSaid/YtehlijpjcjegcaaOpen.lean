/- What a law's argument reads as, in the words of Base: a number, a slice of numbers, a slice of slices of numbers. -/
import Derived.Test.YtehlijpjcjegcaaHelp
import Derived.ProofKit
import Derived.OpenShut
import Derived.ShutString
import Derived.ChangeOld
import Derived.Deep.Matrix
namespace Go.Proofs.Ytehlijpjcjegcaa
open Go.ChangeShapes Go.WideShapes Go.ChangeAt Go.RowKit

theorem own_knob : ownKnob Try.prog.godebug = none := by kernel_rfl
theorem laid_out : laidOutB Try.prog = true := by kernel_rfl

def I64 (x : Int) : Prop := -9223372036854775808 ≤ x ∧ x ≤ 9223372036854775807
theorem i64_of_wf {x : Int} (h : (Lit.int .i64 x).wf = true) : I64 x := by
  have := bounds_i64 h
  unfold I64; omega

/-! ### Posts, the value under another name; two results -/
def GivesIb (T : TypeId) (w : World) (xs : List Int) (b : Bool) (e : Ending) (w' : World) : Prop :=
  ∃ A c, e = .returned (.tuple #[.slice A xs.length c, .bool b]) ∧ Own T w.heap.size w'.heap.size w' A c (xs.map (.int .i64)) ∧ Below w.heap.size w w'
def GivesIIb (T TT : TypeId) (w : World) (xss : List (List Int)) (b : Bool) (e : Ending) (w' : World) : Prop :=
  ∃ A c, e = .returned (.tuple #[.slice A xss.length c, .bool b]) ∧ Own2 T TT w.heap.size w'.heap.size w' A c xss ∧ Below w.heap.size w w'
section
variable {P : Program} {f : FuncId} {args : Array Value} {w : World} {T TT : TypeId}
theorem givesI_v {xs ys : List Int} (h : Calls P f args w (GivesI T w xs)) (e : xs = ys) : Calls P f args w (GivesI T w ys) := by rw [← e]; exact h
theorem givesII_v {xs ys : List (List Int)} (h : Calls P f args w (GivesII T TT w xs)) (e : xs = ys) : Calls P f args w (GivesII T TT w ys) := by rw [← e]; exact h
theorem givesIb_v {xs ys : List Int} {b c : Bool} (h : Calls P f args w (GivesIb T w xs b)) (e : xs = ys) (e' : b = c) : Calls P f args w (GivesIb T w ys c) := by rw [← e, ← e']; exact h
theorem givesIIb_v {xs ys : List (List Int)} {b c : Bool} (h : Calls P f args w (GivesIIb T TT w xs b)) (e : xs = ys) (e' : b = c) : Calls P f args w (GivesIIb T TT w ys c) := by rw [← e, ← e']; exact h
end

theorem total_bd {b : Nat} : ∀ (xss : List (List Int)), (∀ xs ∈ xss, xs.length ≤ b) → total xss ≤ xss.length * b
  | [], _ => by simp [total]
  | xs :: r, h => by
    have h1 := h xs (by simp)
    have h2 := total_bd r (fun ys hy => h ys (by simp [hy]))
    simp only [total, List.length_cons, Nat.add_mul]; omega

/-! ### The laws' own bound on what comes in -/
def BdI (xs : List Int) : Prop := xs.length ≤ 1048576 ∧ ∀ x ∈ xs, I64 x
def BdR (xss : List (List Int)) : Prop := xss.length ≤ 1048576 ∧ total xss ≤ 1048576 ∧ ∀ xs ∈ xss, xs.length ≤ 1048576 ∧ ∀ x ∈ xs, I64 x
theorem szR_bound : ∀ (xss : List (List Int)) (l : Int), 0 ≤ szR xss l → (total xss : Int) ≤ l ∧ ∀ xs ∈ xss, (xs.length : Int) ≤ l
  | [], l, h => by simp only [szR] at h; exact ⟨by simpa [total] using h, fun xs h => by simp at h⟩
  | xs :: r, l, h => by
    simp only [szR] at h
    split at h
    · omega
    · obtain ⟨h1, h2⟩ := szR_bound r _ h
      refine ⟨by simp only [total]; omega, fun ys hy => ?_⟩
      rcases List.mem_cons.1 hy with rfl | hy
      · omega
      · have := h2 ys hy; omega
theorem bdR_of {xss : List (List Int)} {l : Int} (hl : l ≤ 1048576) (h : 0 ≤ szRows xss l) (hz : ∀ xs ∈ xss, ∀ x ∈ xs, I64 x) : BdR xss := by
  unfold szRows at h
  split at h
  · omega
  · obtain ⟨h1, h2⟩ := szR_bound xss _ h
    exact ⟨by omega, by omega, fun xs hx => ⟨by have := h2 xs hx; omega, hz xs hx⟩⟩
theorem szR_le : ∀ (xss : List (List Int)) (l : Int), szR xss l ≤ max l (-1)
  | [], l => by simp only [szR]; omega
  | xs :: r, l => by
    simp only [szR]
    split
    · omega
    · have := szR_le r (l - xs.length); omega
theorem szRows_le (xss : List (List Int)) (l : Int) : szRows xss l ≤ max l (-1) := by
  unfold szRows
  split
  · omega
  · have := szR_le xss (l - xss.length); omega

section
variable {H : Type} {enc : TypeId × Value → H} {W : World}
theorem open_list {t e : TypeId} {a : Option Addr} {len cap : Nat} {d : DataW H} {p : List MemPlace} (ht : Try.prog.underlying t = some (.slice e)) (he : Try.prog.underlying e = some (.int .i64)) (ce : Try.prog.cellsOf e = 1)
    (h : DataW.Trod enc Try.prog W 0 (fun _ => true) true t (.slice a len cap) d p) :
    ∃ xs : List Int, xs.length = len ∧ Ints W a xs ∧ len ≤ cap ∧ cap ≤ maxLen ∧ ∀ x ∈ xs, I64 x := by
  obtain ⟨fuel, hf⟩ := h
  rcases open_ints ht he ce hf with ⟨hcs, _⟩ | ⟨x, l, c, zs, hcs, _, hl, hm, hz, _, hcell, hwz⟩
  · simp [Value.cells] at hcs
    obtain ⟨rfl, rfl, rfl⟩ := hcs
    exact ⟨[], rfl, Ints.nil _ _, Nat.le_refl _, Nat.zero_le _, fun x h => by simp at h⟩
  · simp [Value.cells] at hcs
    obtain ⟨rfl, rfl, rfl⟩ := hcs
    simp only [if_true] at hz
    refine ⟨zs.take len, by simp; omega, fun k u hu => ?_, hl, hm, fun x h => i64_of_wf (hwz x (List.mem_of_mem_take h))⟩
    rw [List.getElem?_take] at hu
    split at hu
    · refine ⟨_, rfl, ?_⟩
      rw [hcell k (lt_of hu), List.getD_eq_getElem?_getD, hu]; rfl
    · cases hu
theorem open_lists {t e q : TypeId} {a : Option Addr} {len cap : Nat} {d : DataW H} {p : List MemPlace} (ht : Try.prog.underlying t = some (.slice e)) (he : Try.prog.underlying e = some (.slice q)) (hq : Try.prog.underlying q = some (.int .i64))
    (ce : Try.prog.cellsOf e = 1) (cq : Try.prog.cellsOf q = 1) (h : DataW.Trod enc Try.prog W 0 (fun _ => true) true t (.slice a len cap) d p) :
    ∃ xss : List (List Int), xss.length = len ∧ Rows W a xss ∧ len ≤ cap ∧ cap ≤ maxLen ∧ ∀ xs ∈ xss, ∀ x ∈ xs, I64 x := by
  obtain ⟨fuel, hf⟩ := h
  rcases Go.Deep.open_int_rows ht he hq ce cq hf with ⟨hcs, _⟩ | ⟨x, l, c, A, L, C, Z, hcs, _, hl, hm, _, hcell⟩
  · simp [Value.cells] at hcs
    obtain ⟨rfl, rfl, rfl⟩ := hcs
    exact ⟨[], rfl, Rows.nil _ _, Nat.le_refl _, Nat.zero_le _, fun x h => by simp at h⟩
  · simp [Value.cells] at hcs
    obtain ⟨rfl, rfl, rfl⟩ := hcs
    refine ⟨(List.range len).map fun r => (Z r).take (L r), by simp, fun k xs hk => ?_, hl, hm, fun xs hxs y hy => ?_⟩
    · obtain ⟨r, hr, rfl⟩ := some_map hk
      have hkl : k < len := by have := lt_of hk; simpa using this
      obtain rfl : k = r := by rw [List.getElem?_range hkl] at hr; injection hr
      obtain ⟨h1, h2, h3, h4, h5, h6, h7⟩ := hcell k (by omega)
      have hlen : ((Z k).take (L k)).length = L k := by simp; omega
      refine ⟨x, A k, C k, rfl, by omega, h3, by rw [hlen]; exact h1, fun j u hu => ?_⟩
      rw [List.getElem?_take] at hu
      split at hu
      · have hj : j < C k := by have := lt_of hu; omega
        cases hA : A k with
        | none => have := h6 hA; omega
        | some a' =>
          refine ⟨a', rfl, ?_⟩
          rw [(h7 a' hA).2 j hj, List.getD_eq_getElem?_getD, hu]; rfl
      · cases hu
    · obtain ⟨r, hr, rfl⟩ := List.mem_map.1 hxs
      have hrl : r < len := by simpa using hr
      exact i64_of_wf ((hcell r (by omega)).2.2.2.2.1 y (List.mem_of_mem_take hy))
end
end Go.Proofs.Ytehlijpjcjegcaa
