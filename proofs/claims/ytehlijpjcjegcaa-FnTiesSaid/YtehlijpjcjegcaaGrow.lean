/- Rows of the call's own that grow in place: out[k] = append(out[k], u). No program in sight. -/
import Derived.Test.YtehlijpjcjegcaaBase3
import Derived.Deep.AppendLies
namespace Go.Proofs.Ytehlijpjcjegcaa
set_option linter.unusedSimpArgs false
set_option linter.unusedVariables false
open Go.RowKit

theorem zip_set2 {hs : List (Option Addr × Nat)} {xss : List (List Int)} {k : Nat} (h : Option Addr × Nat) (ys : List Int) :
    (List.zipWith hdr hs xss).set k (hdr h ys) = List.zipWith hdr (hs.set k h) (xss.set k ys) := by
  apply List.ext_getElem?
  intro i
  rw [List.getElem?_set, List.getElem?_zipWith, List.getElem?_zipWith, List.getElem?_set, List.getElem?_set]
  by_cases hik : k = i
  · subst hik
    rw [if_pos rfl, if_pos rfl, if_pos rfl]
    simp only [List.length_zipWith]
    by_cases h1 : k < hs.length <;> by_cases h2 : k < xss.length
    · rw [if_pos (by omega), if_pos h1, if_pos h2]
    · rw [if_neg (by omega), if_pos h1, if_neg h2]
    · rw [if_neg (by omega), if_neg h1, if_pos h2]
    · rw [if_neg (by omega), if_neg h1, if_neg h2]
  · rw [if_neg hik, if_neg hik, if_neg hik]

theorem own_type {T T' : TypeId} {lo hi lo' hi' : Nat} {w : World} {g g' c c' : Nat} {us vs : List Value} (h : Own T lo hi w (some ⟨g, 0, none⟩) c us) (h' : Own T' lo' hi' w (some ⟨g', 0, none⟩) c' vs) (hT : T ≠ T') : g ≠ g' := by
  rintro rfl
  obtain ⟨_, _, h3⟩ := h
  obtain ⟨_, _, k3⟩ := h'
  rcases h3 with ⟨e, _⟩ | ⟨g1, cs, e, _, _, h4, _⟩
  · cases e
  · rcases k3 with ⟨e', _⟩ | ⟨g2, cs', e', _, _, k4, _⟩
    · cases e'
    · injection e with e; injection e with e
      injection e' with e'; injection e' with e'
      subst e; subst e'
      rw [h4] at k4
      injection k4 with k4
      injection k4 with _ k5
      exact hT k5
theorem Own.at_block {T : TypeId} {lo hi : Nat} {w w' : World} {A : Option Addr} {c : Nat} {us : List Value} (h : Own T lo hi w A c us) (k : ∀ a : Addr, A = some a → w'.heap[a.block]? = w.heap[a.block]?) : Own T lo hi w' A c us := by
  obtain ⟨h1, h2, h3⟩ := h
  refine ⟨h1, h2, ?_⟩
  rcases h3 with h3 | ⟨g, cs, e, a1, a2, a3, a4⟩
  · exact .inl h3
  · exact .inr ⟨g, cs, e, a1, a2, (k _ e).trans a3, a4⟩
theorem Own.le {T : TypeId} {lo hi : Nat} {w : World} {c : Nat} {us : List Value} {a : Addr} (h : Own T lo hi w (some a) c us) : a.block < hi ∧ lo ≤ a.block ∧ a = ⟨a.block, 0, none⟩ := by
  obtain ⟨_, _, h3⟩ := h
  rcases h3 with ⟨e, _⟩ | ⟨g, cs, e, h1, h2, _⟩
  · cases e
  · injection e with e; subst e; exact ⟨h2, h1, rfl⟩

/-- One inner row has grown, in place or into a new block, and its header is stored. -/
theorem Own2.grow {T TT : TypeId} {G hi : Nat} {w w' : World} {n : Nat} {xss : List (List Int)} {k : Nat} {xs : List Int} (h : Own2 T TT G hi w (some ⟨G, 0, none⟩) n xss) (hT : T ≠ TT) (hhi : hi ≤ w.heap.size) (hx : xss[k]? = some xs)
    {a : Option Addr} {c : Nat} (hc : w.cell? ⟨G, k, none⟩ = some (.slice a xs.length c)) {u : Int} {g' c' : Nat} (hg : w.grownBy w' (Value.slice a xs.length c).ownBlock)
    (ho : Own T G w'.heap.size w' (some ⟨g', 0, none⟩) c' ((xs ++ [u]).map (.int .i64))) (hl : (Value.slice a xs.length c).ownBlock = some g' ∨ w.heap.size ≤ g') :
    (∃ y, w'.cell? ⟨G, k, none⟩ = some y) ∧ w'.frozen? ⟨G, k, none⟩ = false ∧
      Own2 T TT G w'.heap.size (w'.setCell ⟨G, k, none⟩ (.slice (some ⟨g', 0, none⟩) (xs.length + 1) c')) (some ⟨G, 0, none⟩) n (xss.set k (xs ++ [u])) := by
  obtain ⟨hs, hown, hin⟩ := h
  obtain ⟨⟨a0, c0⟩, hk⟩ := some_of (l := hs) (k := k) (by rw [hin.len]; exact lt_of hx)
  obtain ⟨g0, e0, _, hG, hc0, _⟩ := hown.at_ (zip_some hk hx)
  obtain rfl : G = g0 := by injection e0 with e0; injection e0
  rw [hc0] at hc
  simp only [hdr, Option.some.injEq, Value.slice.injEq, true_and] at hc
  obtain ⟨rfl, rfl⟩ := hc
  have hrow := hin.own k _ xs hk hx
  -- the outer row stays
  have hne : some G ≠ (Value.slice a0 xs.length c0).ownBlock := by
    cases a0 with
    | none => simp [Value.ownBlock]
    | some b =>
      obtain ⟨_, _, eb⟩ := hrow.le
      simp only [Value.ownBlock, ne_eq, Option.some.injEq]
      intro e
      rw [eb] at hrow
      exact own_type hrow hown hT (by rw [e])
  have hGw : w'.heap[G]? = w.heap[G]? := hg.block G (by omega) hne
  have hown' : Own TT G w'.heap.size w' (some ⟨G, 0, none⟩) n (List.zipWith hdr hs xss) :=
    (hown.at_block (fun b e => by injection e with e; subst e; exact hGw)).wide (Nat.le_refl _) (Nat.le_trans hhi hg.size)
  obtain ⟨g1, e1, _, _, hc1, hf1⟩ := hown'.at_ (zip_some hk hx)
  obtain rfl : G = g1 := by injection e1 with e1; injection e1
  refine ⟨⟨_, hc1⟩, hf1, hs.set k (some ⟨g', 0, none⟩, c'), ?_, ?_⟩
  · have := hown'.set_ k (hdr (some ⟨g', 0, none⟩, c') (xs ++ [u]))
    rw [zip_set2] at this
    have e : hdr (some ⟨g', 0, none⟩, c') (xs ++ [u]) = .slice (some ⟨g', 0, none⟩) (xs.length + 1) c' := by simp [hdr]
    rw [e] at this
    exact this
  · have hkl : k < hs.length := lt_of hk
    have hkx : k < xss.length := lt_of hx
    have hg'G : g' ≠ G := own_type ho hown' hT
    -- other rows: their blocks
    have hoth : ∀ (j : Nat) (b : Addr) (y : Option Addr × Nat), hs[j]? = some y → y.1 = some b → j ≠ k → b.block < hi ∧ b.block ≠ G ∧ some b.block ≠ (Value.slice a0 xs.length c0).ownBlock ∧ b.block ≠ g' := fun j b y hj hb hjk => by
      obtain ⟨ys, hy⟩ := some_of (l := xss) (k := j) (by rw [← hin.len]; exact lt_of hj)
      have hr := hin.own j y ys hj hy
      rw [hb] at hr
      obtain ⟨h1, h2, eb⟩ := hr.le
      have h3 : some b.block ≠ (Value.slice a0 xs.length c0).ownBlock := by
        cases a0 with
        | none => simp [Value.ownBlock]
        | some d => simp only [Value.ownBlock, ne_eq, Option.some.injEq]; exact hin.apart j k y _ b d hj hk hb rfl hjk
      refine ⟨h1, fun e => ?_, h3, fun e => ?_⟩
      · rw [eb] at hr
        exact own_type hr hown hT e
      · rcases hl with hl | hl
        · rw [hl] at h3; exact h3 (by rw [e])
        · omega
    refine ⟨by rw [List.length_set, List.length_set, hin.len], fun j y ys hj hy => ?_, fun i j y y' b b' hi' hj hb hb' hij => ?_⟩
    · by_cases hjk : k = j
      · subst hjk
        rw [List.getElem?_set_self hkl] at hj
        rw [List.getElem?_set_self hkx] at hy
        injection hj with hj; injection hy with hy
        subst hj; subst hy
        exact ho.at_block (fun b e => by
          injection e with e; subst e
          exact Below.heap_setCell w' _ _ g' (by exact hg'G))
      · rw [List.getElem?_set_ne hjk] at hj hy
        have hr := hin.own j y ys hj hy
        refine Own.at_block (w := w) (hr.wide (Nat.le_refl _) (Nat.le_trans hhi hg.size)) (fun b e => ?_)
        obtain ⟨h1, h2, h3, _⟩ := hoth j b y hj e (fun e => hjk e.symm)
        rw [Below.heap_setCell w' _ _ b.block (by exact h2)]
        exact hg.block b.block (by omega) h3
    · by_cases hik : k = i <;> by_cases hjk : k = j
      · omega
      · subst hik
        rw [List.getElem?_set_self hkl] at hi'
        rw [List.getElem?_set_ne hjk] at hj
        injection hi' with hi'; subst hi'
        injection hb with hb; subst hb
        exact fun e => (hoth j b' y' hj hb' (fun e => hjk e.symm)).2.2.2 e.symm
      · subst hjk
        rw [List.getElem?_set_self hkl] at hj
        rw [List.getElem?_set_ne hik] at hi'
        injection hj with hj; subst hj
        injection hb' with hb'; subst hb'
        exact (hoth i b y hi' hb (fun e => hik e.symm)).2.2.2
      · rw [List.getElem?_set_ne hik] at hi'
        rw [List.getElem?_set_ne hjk] at hj
        exact hin.apart i j y y' b b' hi' hj hb hb' hij

theorem Own2.own_of {T TT : TypeId} {G hi : Nat} {w : World} {n : Nat} {xss : List (List Int)} {k : Nat} {xs : List Int} (h : Own2 T TT G hi w (some ⟨G, 0, none⟩) n xss) (hx : xss[k]? = some xs) :
    ∃ a c, w.cell? ⟨G, k, none⟩ = some (.slice a xs.length c) ∧ Own T G hi w a c (xs.map (.int .i64)) ∧ ∀ g, (Value.slice a xs.length c).ownBlock = some g → G ≤ g ∧ g < hi := by
  obtain ⟨hs, hown, hin⟩ := h
  obtain ⟨⟨a0, c0⟩, hk⟩ := some_of (l := hs) (k := k) (by rw [hin.len]; exact lt_of hx)
  obtain ⟨g0, e0, _, hG, hc0, _⟩ := hown.at_ (zip_some hk hx)
  obtain rfl : G = g0 := by injection e0 with e0; injection e0
  have hrow := hin.own k _ xs hk hx
  refine ⟨a0, c0, hc0, hrow, fun g e => ?_⟩
  cases a0 with
  | none => simp [Value.ownBlock] at e
  | some d =>
    obtain ⟨h1, h2, _⟩ := hrow.le
    simp [Value.ownBlock] at e
    omega
/-- append of one number to an own row, at a step of a region that draws its order; where the new row lies. -/
theorem step_app1 {P : Program} {ops : Array Oper} {o : Oper} {a : Act} {K : Act → World → Prop} {Q : Exit → Act → World → Prop} {E : Prop} (hgd : o.guard = none) (s x : Operand) (t : TypeId)
    (ho : o.op = .call { callee := .builtin .append, args := #[s, x], argTypes := #[t, t] }) (T : TypeId) (z : Value) (bytes : Nat) (ht : P.underlying t = some (.slice T))
    (hinfo : (P.info? T).map (fun i => (i.zero, i.size, i.bytes)) = some (some z, 1, bytes)) (hz1 : z.cells.size = 1) (wr : World) (lo : Nat) (A : Option Addr) (c : Nat) (us : List Value)
    (hown : Own T lo wr.heap.size wr A c us) (hlo : lo ≤ wr.heap.size) (u : Value) (hu : u.oneCell' = true) (hlen : us.length ≤ 1048576) (hb : bytes ≤ 64)
    (n : Nat) (hn : n = us.length) (hs : a.eval s = .slice A n c) (hx : a.eval x = .slice (some ⟨wr.heap.size, 0, none⟩) 1 1)
    (h : ∀ g' c' w', Own T lo w'.heap.size w' (some ⟨g', 0, none⟩) c' (us ++ [u]) → wr.grownBy w' (Value.slice A n c).ownBlock → (wr.alloc (.cells #[u] T)).grownBy w' (Value.slice A n c).ownBlock → ((Value.slice A n c).ownBlock = some g' ∨ wr.heap.size ≤ g') → K (a.put o.dst (.slice (some ⟨g', 0, none⟩) (n + 1) c')) w') :
    if Region.wanted o (yielded ops a.tmps) = true then Oper.wp P o a (wr.alloc (.cells #[u] T)) K Q else E := by
  subst hn
  obtain ⟨i0, hi, hz0, hz2, hz3⟩ := info_parts hinfo
  refine step_append_lies (wr.alloc (.cells #[u] T)) hgd s x t ho lo T i0 z 1 bytes ht hi hz0 hz2 hz3 hz1 (by decide) (.slice A us.length c) us.length us hs (hown.ownsRow.alloc _) ⟨wr.heap.size, 0, none⟩ 1 1 [u] hx rfl ?_ ?_ (by decide) ?_ ?_ (by simp; omega) (wr.heap.size + 1) (by simp) ?_
  · intro j v hj
    have : j = 0 := by have := lt_of hj; simpa using this
    subst this
    simp at hj; subst hj
    rw [addr_zero_add, cell_of_row _ _ 0 #[u] T (0, 0) (heap_alloc_new wr _)]; rfl
  · intro v hv
    simp at hv; subst hv; exact hu
  · unfold maxLen; omega
  · have : (us.length + 1) * bytes ≤ 1048577 * 64 := Nat.mul_le_mul (by omega) hb
    omega
  · intro g cap w' hown' hgrow hlies hgl
    obtain ⟨A', c', e', hl, ho'⟩ := Own.of_row hown'
    injection e' with e1 _ e2
    subst e1; subst e2
    have hg : wr.grownBy w' (Value.slice A us.length c).ownBlock :=
      ⟨hgrow.os, hgrow.tape, hgrow.output, Nat.le_trans (by simp) hgrow.size, fun k hk hne => (hgrow.block k (by simp; omega) hne).trans (Below.heap_alloc wr _ k hk)⟩
    exact h g cap w' ho' hg hgrow (hlies.imp id (fun e => by omega))
/-- The same in a plain walk. -/
theorem wpList_app1l {P : Program} {ops : Array Oper} {rest : List Oper} {o : Oper} {a : Act} {Q : Exit → Act → World → Prop} (hgd : o.guard = none) (s x : Operand) (t : TypeId)
    (ho : o.op = .call { callee := .builtin .append, args := #[s, x], argTypes := #[t, t] }) (T : TypeId) (z : Value) (bytes : Nat) (ht : P.underlying t = some (.slice T))
    (hinfo : (P.info? T).map (fun i => (i.zero, i.size, i.bytes)) = some (some z, 1, bytes)) (hz1 : z.cells.size = 1) (wr : World) (lo : Nat) (A : Option Addr) (c : Nat) (us : List Value)
    (hown : Own T lo wr.heap.size wr A c us) (hlo : lo ≤ wr.heap.size) (u : Value) (hu : u.oneCell' = true) (hlen : us.length ≤ 1048576) (hb : bytes ≤ 64)
    (n : Nat) (hn : n = us.length) (hs : a.eval s = .slice A n c) (hx : a.eval x = .slice (some ⟨wr.heap.size, 0, none⟩) 1 1)
    (h : ∀ g' c' w', Own T lo w'.heap.size w' (some ⟨g', 0, none⟩) c' (us ++ [u]) → wr.grownBy w' (Value.slice A n c).ownBlock → (wr.alloc (.cells #[u] T)).grownBy w' (Value.slice A n c).ownBlock → ((Value.slice A n c).ownBlock = some g' ∨ wr.heap.size ≤ g') → wpList P ops Q rest (a.put o.dst (.slice (some ⟨g', 0, none⟩) (n + 1) c')) w') :
    wpList P ops Q (o :: rest) a (wr.alloc (.cells #[u] T)) := by
  refine wpList_plain hgd fun K hK => ?_
  have := step_app1 (P := P) (ops := #[]) (Q := Q) (E := False) hgd s x t ho T z bytes ht hinfo hz1 wr lo A c us hown hlo u hu hlen hb n hn hs hx (K := K) (fun g' c' w' h1 h2 h3 h4 => hK _ _ (h g' c' w' h1 h2 h3 h4))
  rwa [if_pos (by simp [Region.wanted, hgd])] at this
theorem only_of_grown {lo hi : Nat} {w w' : World} {row : Option Nat} (h : w.grownBy w' row) (hr : ∀ g, row = some g → lo ≤ g ∧ g < hi) : Only lo hi w w' :=
  ⟨h.os, h.tape, h.output, h.size, fun k hk hd => h.block k hk (fun e => by have := hr k e.symm; omega)⟩
end Go.Proofs.Ytehlijpjcjegcaa
