/- Shared words for memory, more: make behind a name for the world; two numbers written. -/
import Derived.Test.YtehlijpjcjegcaaHelp
import Derived.Test.YtehlijpjcjegcaaBase2
namespace Go.Proofs.Ytehlijpjcjegcaa
open Go.RowKit

theorem wpList_mk {P : Program} (wr : World) {ops : Array Oper} {rest : List Oper} {o : Oper} {a : Act} {Q : Exit → Act → World → Prop} (hgd : o.guard = none) (l c : Operand) (t : TypeId) (hop : o.op = Op.makeSlice t l c)
    (T : TypeId) (z : Value) (bytes : Nat) (ht : P.underlying t = some (.slice T)) (hinfo : (P.info? T).map (fun i => (i.zero, i.size, i.bytes)) = some (some z, 1, bytes)) (hz1 : z.cells = #[z])
    (n : Nat) (hl : a.eval l = .int .i64 (n : Int)) (hc : a.eval c = .int .i64 (n : Int)) (hb : bytes ≤ 64) (hn : n ≤ 1048576)
    (h : ∀ w', Own T wr.heap.size w'.heap.size w' (some ⟨wr.heap.size, 0, none⟩) n (List.replicate n z) → Below wr.heap.size wr w' → wr.heap.size < w'.heap.size → wpList P ops Q rest (a.put o.dst (.slice (some ⟨wr.heap.size, 0, none⟩) n n)) w') :
    wpList P ops Q (o :: rest) a wr := by
  obtain ⟨i0, hi, hz0, hz2, hz3⟩ := info_parts hinfo
  refine wpList_make_row wr hgd l c t hop T i0 z ht hi hz0 hz2 hz1 .i64 .i64 n hl hc ?_ (by omega) ?_
  · rw [hz3]
    have : bytes * n ≤ 64 * 1048576 := Nat.mul_le_mul hb hn
    omega
  · refine h _ ?_ ((Below.refl _ _).alloc (Nat.le_refl _) _) (by simp)
    have := own_made T wr.heap.size wr z n (Nat.le_refl _) (by unfold maxLen; omega)
    simpa using this

theorem ownr {T : TypeId} {lo hi : Nat} {w : World} {A : Option Addr} {c : Nat} {xs : List Int} (h : Own T lo hi w A c (xs.map (.int .i64))) {k : Nat} {x : Int} (hk : xs[k]? = some x) :
    ∃ g, A = some ⟨g, 0, none⟩ ∧ lo ≤ g ∧ g < hi ∧ w.cell? ⟨g, k, none⟩ = some (.int .i64 x) ∧ w.frozen? ⟨g, k, none⟩ = false := h.at_ (map_some hk)
theorem Own.seti {T : TypeId} {lo hi : Nat} {w : World} {c g : Nat} {xs : List Int} (h : Own T lo hi w (some ⟨g, 0, none⟩) c (xs.map (.int .i64))) (k : Nat) (x : Int) :
    Own T lo hi (w.setCell ⟨g, k, none⟩ (.int .i64 x)) (some ⟨g, 0, none⟩) c ((xs.set k x).map (.int .i64)) := by rw [List.map_set]; exact h.set_ k _
/-- Two numbers written, one behind the other. -/
theorem two_sets {T : TypeId} {lo hi g c : Nat} {w : World} {xs zs : List Int} {a b : Nat} (h : Own T lo hi w (some ⟨g, 0, none⟩) c (xs.map (.int .i64))) (ha : a < xs.length) (hb : b < xs.length) (u v : Int) (hz : (xs.set a u).set b v = zs) :
    ∃ x y, w.cell? ⟨g, a, none⟩ = some x ∧ w.frozen? ⟨g, a, none⟩ = false ∧ (w.setCell ⟨g, a, none⟩ (.int .i64 u)).cell? ⟨g, b, none⟩ = some y ∧ w.frozen? ⟨g, b, none⟩ = false ∧
      Own T lo hi ((w.setCell ⟨g, a, none⟩ (.int .i64 u)).setCell ⟨g, b, none⟩ (.int .i64 v)) (some ⟨g, 0, none⟩) c (zs.map (.int .i64)) := by
  subst hz
  obtain ⟨x, hx⟩ := some_of ha
  obtain ⟨y, hy⟩ := some_of (l := xs.set a u) (k := b) (by simpa using hb)
  obtain ⟨y', hy'⟩ := some_of hb
  obtain ⟨g1, e1, _, _, h1, h2⟩ := ownr h hx
  obtain rfl : g = g1 := by injection e1 with e1; injection e1
  obtain ⟨g2, e2, _, _, _, h3⟩ := ownr h hy'
  obtain rfl : g = g2 := by injection e2 with e2; injection e2
  obtain ⟨g3, e3, _, _, h4, _⟩ := ownr (h.seti a u) hy
  obtain rfl : g = g3 := by injection e3 with e3; injection e3
  exact ⟨_, _, h1, h2, h4, h3, (h.seti a u).seti b v⟩
theorem setCell_size (w : World) (a : Addr) (v : Value) : (w.setCell a v).heap.size = w.heap.size := by simp [World.setCell]
end Go.Proofs.Ytehlijpjcjegcaa
