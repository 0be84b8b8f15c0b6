/- Shared words for laws over a code (bytes): the argument opened. -/
import Derived.Test.YtehlijpjcjegcaaCur2
import Derived.Test.YtehlijpjcjegcaaOpen
namespace Go.Proofs.Ytehlijpjcjegcaa
open Go.ChangeShapes Go.WideShapes Go.ChangeAt Go.RowKit
set_option linter.unusedVariables false
set_option linter.unusedSimpArgs false

theorem open_bytes {H : Type} {enc : TypeId × Value → H} {W : World} {t : TypeId} {a : Option Addr} {len cap : Nat} {d : DataW H} {p : List MemPlace} (ht : Try.prog.underlying t = some (.slice 5))
    (h : DataW.Trod enc Try.prog W 0 (fun _ => true) true t (.slice a len cap) d p) (hlt : ∀ x ∈ p, x.block < W.heap.size) : Byt W a len ∧ (∀ b, a = some b → 0 < len → b.block < W.heap.size) ∧ len ≤ maxLen := by
  obtain ⟨fuel, hf⟩ := h
  rcases open_ints ht Try.underlying5 (by kernel_rfl) hf with ⟨hcs, _⟩ | ⟨x, l, c, zs, hcs, _, hl, hm, hz, _, hcell, hwz⟩
  · simp [Value.cells] at hcs
    obtain ⟨rfl, rfl, rfl⟩ := hcs
    exact ⟨fun k hk => by omega, (fun b e => by cases e), Nat.zero_le _⟩
  · simp [Value.cells] at hcs
    obtain ⟨rfl, rfl, rfl⟩ := hcs
    simp only [if_true] at hz
    have hB : Byt W (some x) len := fun k hk => by
      have h1 := hcell k (by omega)
      obtain ⟨v, hv⟩ := some_of (l := zs) (k := k) (by omega)
      have e : zs.getD k 0 = v := by rw [List.getD_eq_getElem?_getD, hv]; rfl
      rw [e] at h1
      have hw := hwz v (List.mem_of_getElem? hv)
      refine ⟨x, v, rfl, h1, ?_⟩
      simp only [Lit.wf, IntKind.min, IntKind.max, IntKind.signed, IntKind.bits, Bool.and_eq_true, decide_eq_true_eq] at hw
      simp at hw
      omega
    exact ⟨hB, fun b e h0 => byt_old hB h0 b e, Nat.le_trans hl hm⟩

end Go.Proofs.Ytehlijpjcjegcaa
