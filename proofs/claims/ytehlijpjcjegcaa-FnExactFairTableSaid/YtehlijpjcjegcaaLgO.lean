/- What a law's argument reads as: a league. -/
import Derived.Test.YtehlijpjcjegcaaLgA
import Derived.Test.YtehlijpjcjegcaaOpen
import Derived.Deep.Slices
import Derived.Deep.Fields
import Derived.ChangeSame
import Derived.Lib.SmallJoins
namespace Go.Proofs.Ytehlijpjcjegcaa
set_option linter.unusedSimpArgs false
set_option linter.unusedVariables false
open Go.Joins Go.ChangeShapes Go.WideShapes Go.RowKit Go.Deep

section
variable {H : Type} {enc : TypeId × Value → H} {P : Program} {w : World} {base : Nat} {spare : Nat → Bool} {held : Bool}
theorem open_slice_fields {t e : TypeId} {fs : Array Field} {fuel : Nat} {cs : List Value} {x : DataW H × List MemPlace} (ht : P.underlying t = some (.slice e)) (he : P.underlying e = some (.struct fs))
    (hone : oneCellFields P fs = true) (hC : P.cellsOf e = fs.size) (h : DataW.trod enc P w base spare held fuel t cs = some x) :
    (cs = [.slice none 0 0] ∧ x = (.nil, [])) ∨
    ∃ (a : Addr) (len cap m : Nat) (D : Nat → DataW H) (Pl : Nat → List MemPlace), cs = [.slice (some a) len cap] ∧ base ≤ a.block ∧ len ≤ cap ∧ cap ≤ maxLen ∧ m = (if spare a.block then cap else len) ∧
      x = (.slice ((List.range len).map D) ((List.range (m - len)).map fun j => D (len + j)), MemPlace.row a (m * fs.size) ++ (List.range m).flatMap Pl) ∧
      ∀ i, i < m → ∃ (ys : List (DataW H × List MemPlace)) (n : Nat), D i = .agg (ys.map (·.1)) ∧ Pl i = ys.flatMap (·.2) ∧ ys.length = fs.size ∧
        ∀ (j : Nat) (f : Field), fs[j]? = some f → ∃ (v : Value) (y : DataW H × List MemPlace), w.cell? (a.add (i * fs.size + j)) = some v ∧ ys[j]? = some y ∧ DataW.trod enc P w base spare held n f.type [v] = some y := by
  rcases open_slice ht h with h0 | ⟨a, len, cap, m, n, D, Pl, hcs, hb, hl, hm, hmm, hx, hi⟩
  · exact .inl h0
  · refine .inr ⟨a, len, cap, m, D, Pl, hcs, hb, hl, hm, hmm, by rw [hC] at hx; exact hx, fun i him => ?_⟩
    obtain ⟨cs', hc, ht'⟩ := hi i him
    rw [hC] at hc
    obtain ⟨ys, n', hn', hy, hlen, hyl, hf⟩ := DataW.trod_struct he ht'
    obtain ⟨_, hcl, hat⟩ := World.cells?_some hc
    simp only [Prod.mk.injEq] at hy
    refine ⟨ys, n', hy.1, hy.2, hyl, fun j f hj => ?_⟩
    obtain ⟨ho, hk⟩ := hone_of hone j f hj
    have hjl : j < fs.size := (Array.getElem?_eq_some_iff.1 hj).1
    have hcell := hat j hjl
    have hv : cs'[j]? = some (cs'[j]'(by omega)) := List.getElem?_eq_getElem (by omega)
    have h1 := hf j f hj
    rw [ho, hk] at h1
    have hone' : (cs'.drop j).take 1 = [cs'[j]'(by omega)] := by
      rw [List.drop_eq_getElem_cons (by omega)]
      rfl
    rw [hone'] at h1
    have hys : ys[j]? = some (ys[j]'(by omega)) := List.getElem?_eq_getElem (by omega)
    refine ⟨_, _, ?_, hys, h1.trans hys⟩
    rw [← Go.Deep.add_add, hcell, hv]
end

def I64r (r : Res) : Prop := I64 r.h ∧ I64 r.a ∧ I64 r.g ∧ I64 r.t
section
variable {H : Type} {enc : TypeId × Value → H} {W : World}
theorem trod_i64 {fuel : Nat} {v : Value} {y : DataW H × List MemPlace} (h : DataW.trod enc Try.prog W 0 (fun _ => true) true fuel 3 [v] = some y) : ∃ n, v = .int .i64 n ∧ I64 n := by
  obtain ⟨n, e, _, hw⟩ := DataW.trod_int Try.underlying3 h
  injection e with e
  exact ⟨n, e, i64_of_wf hw⟩
theorem add_four {ad : Addr} {k j : Nat} : ad.add (k * 4 + j) = (ad.add (k * 4)).add j := by rw [← Go.Deep.add_add]
theorem add_small (p : Addr) (j : Nat) (h : j ≠ 0) : p.add j = ⟨p.block, p.off + j, none⟩ := by unfold Addr.add; rw [if_neg h]
theorem open_league {b0 : Nat} {v : Value} {d : DataW H} {p : List MemPlace} (hv : Value.okWide Try.prog W .any b0 24 v) (h : DataW.Trod enc Try.prog W 0 (fun _ => true) true 24 v d p) :
    ∃ (m : Int) (A : Option Addr) (cap : Nat) (rs : List Res), v = lgv m A rs.length cap ∧ I64 m ∧ Games W A rs ∧ rs.length ≤ cap ∧ cap ≤ maxLen ∧ ∀ r ∈ rs, I64r r := by
  obtain ⟨v0, v1, y0, y1, n, rfl, _, _, h0, h1⟩ := open_agg2 Try.underlying24 (by kernel_rfl) (by kernel_rfl) hv h
  obtain ⟨m, rfl, hm⟩ := trod_i64 h0
  rcases open_slice_fields Try.underlying22 Try.underlying78 (by kernel_rfl) (by kernel_rfl) h1 with ⟨hcs, _⟩ | ⟨a, len, cap, q, D, Pl, hcs, _, hl, hc, hq, _, hcell⟩
  · injection hcs with hcs; subst hcs
    exact ⟨m, none, 0, [], rfl, hm, Games.nil _ _, Nat.le_refl _, Nat.zero_le _, fun r h => by simp at h⟩
  · injection hcs with hcs; subst hcs
    simp only [if_true] at hq
    have hx : ∀ k, k < len → ∃ r : Res, Four W (a.add (k * 4)) r ∧ I64r r := fun k hk => by
      obtain ⟨ys, n', _, _, _, hf⟩ := hcell k (by omega)
      obtain ⟨u0, _, c0, _, t0⟩ := hf 0 _ rfl
      obtain ⟨u1, _, c1, _, t1⟩ := hf 1 _ rfl
      obtain ⟨u2, _, c2, _, t2⟩ := hf 2 _ rfl
      obtain ⟨u3, _, c3, _, t3⟩ := hf 3 _ rfl
      obtain ⟨x0, rfl, b0⟩ := trod_i64 t0
      obtain ⟨x1, rfl, b1⟩ := trod_i64 t1
      obtain ⟨x2, rfl, b2⟩ := trod_i64 t2
      obtain ⟨x3, rfl, b3⟩ := trod_i64 t3
      refine ⟨⟨x0, x1, x2, x3⟩, ⟨c0, ?_, ?_, ?_⟩, b0, b1, b2, b3⟩
      · rw [← add_small _ 1 (by decide), ← add_four]; exact c1
      · rw [← add_small _ 2 (by decide), ← add_four]; exact c2
      · rw [← add_small _ 3 (by decide), ← add_four]; exact c3
    have hch : ∃ f : Nat → Res, ∀ k, k < len → Four W (a.add (k * 4)) (f k) ∧ I64r (f k) := by
      refine ⟨fun k => if h : k < len then Classical.choose (hx k h) else ⟨0, 0, 0, 0⟩, fun k hk => ?_⟩
      simp only [dif_pos hk]
      exact Classical.choose_spec (hx k hk)
    obtain ⟨f, hf⟩ := hch
    refine ⟨m, some a, cap, (List.range len).map f, by simp [lgv], hm, fun k r hr => ?_, by simpa using hl, hc, fun r hr => ?_⟩
    · obtain ⟨j, hj, rfl⟩ := some_map hr
      have hkl : k < len := by have := lt_of hj; simpa using this
      obtain rfl : k = j := by rw [List.getElem?_range hkl] at hj; injection hj
      exact ⟨a, rfl, (hf k hkl).1⟩
    · obtain ⟨j, hj, rfl⟩ := List.mem_map.1 hr
      exact (hf j (by simpa using hj)).2
end
end Go.Proofs.Ytehlijpjcjegcaa
