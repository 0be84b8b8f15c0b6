/- Rows of rows of the call's own that grow at their end, and whose last row grows: the memory's side of levels. -/
import Derived.Test.YtehlijpjcjegcaaOrderS
import Derived.Test.YtehlijpjcjegcaaGrow
namespace Go.Proofs.Ytehlijpjcjegcaa
set_option linter.unusedSimpArgs false
set_option linter.unusedVariables false
open Go.RowKit

theorem only_stepZ {K0 Z G : Nat} {w2 wr w' : World} (hz : w2.heap.size = Z) (h : Only K0 (K0 + 1) w2 wr) (hG : G = K0 ∨ Z ≤ G) (hgr : wr.grownBy w' (some G)) : Only K0 (K0 + 1) w2 w' :=
  ⟨hgr.os.trans h.os, hgr.tape.trans h.tape, hgr.output.trans h.output, Nat.le_trans h.size hgr.size, fun k hk hd =>
    (hgr.block k (Nat.lt_of_lt_of_le hk h.size) (fun e => by injection e with e; omega)).trans (h.block k hk hd)⟩
theorem only_belowZ {lo hi : Nat} {a b c : World} (h : Only lo hi a b) (k : Below b.heap.size b c) : Only lo hi a c := h.trans (only_of_below k (Nat.le_refl _))
theorem only_setZ {K0 Z G k : Nat} {w2 wr : World} (hz : w2.heap.size = Z) (h : Only K0 (K0 + 1) w2 wr) (hG : G = K0 ∨ Z ≤ G) (v : Value) : Only K0 (K0 + 1) w2 (wr.setCell ⟨G, k, none⟩ v) :=
  ⟨h.os, h.tape, h.output, by simpa [World.setCell] using h.size, fun i hi hd => (Below.heap_setCell wr ⟨G, k, none⟩ v i (by show i ≠ G; omega)).trans (h.block i hi hd)⟩
theorem tint_ne : (3 : TypeId) ≠ 33 := by decide
theorem own_new1 (T : TypeId) (w : World) (x : Value) : Own T w.heap.size (w.heap.size + 1) (w.alloc (.cells #[x] T)) (some ⟨w.heap.size, 0, none⟩) 1 [x] :=
  ⟨by simp, by unfold maxLen; omega, .inr ⟨w.heap.size, _, rfl, Nat.le_refl _, Nat.lt_succ_self _, heap_alloc_new w _, rfl, rfl⟩⟩

/-- The outer row in block K0 or behind Z, the inner ones behind Z; what lies below Z, but K0, is as it was in w4. -/
structure LevOwn (K0 Z : Nat) (w4 w : World) (A : Option Addr) (c : Nat) (xss : List (List Int)) : Prop where
  own : ∃ hs : List (Option Addr × Nat), Own 33 K0 w.heap.size w A c (List.zipWith hdr hs xss) ∧ Inner 3 Z w.heap.size w hs xss
  place : ∀ a, A = some a → a.block = K0 ∨ Z ≤ a.block
  only : Only K0 (K0 + 1) w4 w
  le : K0 ≤ Z
  size : w4.heap.size = Z
section
variable {K0 Z : Nat} {w4 w w' : World} {A : Option Addr} {c : Nat} {xss : List (List Int)}
theorem LevOwn.below (h : LevOwn K0 Z w4 w A c xss) (hb : Below w.heap.size w w') : LevOwn K0 Z w4 w' A c xss := by
  obtain ⟨hs, ho, hi⟩ := h.own
  exact ⟨⟨hs, (ho.below hb).wide (Nat.le_refl _) hb.size, (hi.below hb).wide (Nat.le_refl _) hb.size⟩, h.place, only_belowZ h.only hb, h.le, h.size⟩
theorem LevOwn.ge (h : LevOwn K0 Z w4 w A c xss) : Z ≤ w.heap.size := by have := h.only.size; have := h.size; omega
theorem LevOwn.at_ (h : LevOwn K0 Z w4 w A c xss) {k : Nat} {xs : List Int} (hx : xss[k]? = some xs) :
    ∃ G a d, A = some ⟨G, 0, none⟩ ∧ w.cell? ⟨G, k, none⟩ = some (.slice a xs.length d) ∧ Own 3 Z w.heap.size w a d (xs.map (.int .i64)) ∧ xs.length ≤ d ∧ xss.length ≤ c := by
  obtain ⟨hs, ho, hi⟩ := h.own
  obtain ⟨⟨a0, c0⟩, hk⟩ := some_of (l := hs) (k := k) (by rw [hi.len]; exact lt_of hx)
  obtain ⟨G, e0, _, _, hc0, _⟩ := ho.at_ (zip_some hk hx)
  have hr := hi.own k _ xs hk hx
  exact ⟨G, a0, c0, e0, hc0, hr, by have := hr.1; simpa using this, by have := ho.1; rw [List.length_zipWith, hi.len, Nat.min_self] at this; exact this⟩
theorem LevOwn.rows (h : LevOwn K0 Z w4 w A c xss) : Rows w A xss := fun k xs hx => by
  obtain ⟨G, a, d, rfl, hc, ho, hl, _⟩ := h.at_ hx
  exact ⟨_, a, d, rfl, hl, ho.2.1, by rw [addr_zero_add]; exact hc, ho.ints⟩
theorem inner_out {hs : List (Option Addr × Nat)} {hi G n d : Nat} {us : List Value} (h : Inner 3 Z hi w hs xss) (ho : ∃ lo hi', Own 33 lo hi' w (some ⟨G, 0, none⟩) d us) (hg : w.grownBy w' (some G)) (hhi : hi ≤ w.heap.size) : Inner 3 Z hi w' hs xss := by
  obtain ⟨lo, hi', ho⟩ := ho
  refine ⟨h.len, fun k x xs h1 h2 => ?_, h.apart⟩
  have hr := h.own k x xs h1 h2
  refine hr.at_block (fun b e => ?_)
  rw [e] at hr
  obtain ⟨l1, l2, eb⟩ := hr.le
  rw [eb] at hr
  exact hg.block b.block (by omega) (fun e2 => own_type hr ho tint_ne (by injection e2))
/-- One inner row has grown, and its header is stored. -/
theorem LevOwn.grow {G k : Nat} {xs : List Int} (h : LevOwn K0 Z w4 w (some ⟨G, 0, none⟩) c xss) (hx : xss[k]? = some xs)
    {g0 d : Nat} (hc : w.cell? ⟨G, k, none⟩ = some (.slice (some ⟨g0, 0, none⟩) xs.length d)) {u : Int} {g' c' : Nat} (hg : w.grownBy w' (some g0))
    (ho : Own 3 Z w'.heap.size w' (some ⟨g', 0, none⟩) c' ((xs ++ [u]).map (.int .i64))) (hl : some g0 = some g' ∨ w.heap.size ≤ g') :
    (∃ y, w'.cell? ⟨G, k, none⟩ = some y) ∧ w'.frozen? ⟨G, k, none⟩ = false ∧
      LevOwn K0 Z w4 (w'.setCell ⟨G, k, none⟩ (.slice (some ⟨g', 0, none⟩) (xs.length + 1) c')) (some ⟨G, 0, none⟩) c (xss.set k (xs ++ [u])) := by
  obtain ⟨hs, hown, hin⟩ := h.own
  obtain ⟨⟨a0, c0⟩, hk⟩ := some_of (l := hs) (k := k) (by rw [hin.len]; exact lt_of hx)
  obtain ⟨G1, e0, _, hG, hc0, _⟩ := hown.at_ (zip_some hk hx)
  obtain rfl : G = G1 := by injection e0 with e0; injection e0
  rw [hc0] at hc
  simp only [hdr, Option.some.injEq, Value.slice.injEq, true_and] at hc
  obtain ⟨rfl, rfl⟩ := hc
  have hrow := hin.own k _ xs hk hx
  have hne : some G ≠ some g0 := fun e => own_type hrow hown tint_ne (by injection e with e; exact e.symm)
  obtain ⟨r1, r2, _⟩ := hrow.le
  have hGw : w'.heap[G]? = w.heap[G]? := hg.block G hG hne
  have hown' : Own 33 K0 w'.heap.size w' (some ⟨G, 0, none⟩) c (List.zipWith hdr hs xss) :=
    (hown.at_block (fun b e => by injection e with e; subst e; exact hGw)).wide (Nat.le_refl _) hg.size
  obtain ⟨G2, e1, _, _, hc1, hf1⟩ := hown'.at_ (zip_some hk hx)
  obtain rfl : G = G2 := by injection e1 with e1; injection e1
  have hpl := h.place _ rfl
  refine ⟨⟨_, hc1⟩, hf1, ⟨hs.set k (some ⟨g', 0, none⟩, c'), ?_, ?_⟩, h.place, only_setZ h.size (only_stepZ h.size h.only (.inr r2) hg) hpl _, h.le, h.size⟩
  · have := hown'.set_ k (hdr (some ⟨g', 0, none⟩, c') (xs ++ [u]))
    rw [zip_set2] at this
    have e : hdr (some ⟨g', 0, none⟩, c') (xs ++ [u]) = .slice (some ⟨g', 0, none⟩) (xs.length + 1) c' := by simp [hdr]
    rw [e] at this
    simpa [World.setCell] using this
  · have hkl : k < hs.length := lt_of hk
    have hkx : k < xss.length := lt_of hx
    have hg'G : g' ≠ G := own_type ho hown' tint_ne
    have hoth : ∀ (j : Nat) (b : Addr) (y : Option Addr × Nat), hs[j]? = some y → y.1 = some b → j ≠ k → b.block < w.heap.size ∧ b.block ≠ G ∧ some b.block ≠ some g0 ∧ b.block ≠ g' := fun j b y hj hb hjk => by
      obtain ⟨ys, hy⟩ := some_of (l := xss) (k := j) (by rw [← hin.len]; exact lt_of hj)
      have hr := hin.own j y ys hj hy
      rw [hb] at hr
      obtain ⟨h1, h2, eb⟩ := hr.le
      have h3 : some b.block ≠ some g0 := by
        simp only [ne_eq, Option.some.injEq]; exact hin.apart j k y _ b _ hj hk hb rfl hjk
      refine ⟨h1, fun e => ?_, h3, fun e => ?_⟩
      · rw [eb] at hr
        exact own_type hr hown tint_ne e
      · rcases hl with hl | hl
        · rw [hl] at h3; exact h3 (by rw [e])
        · omega
    have hsz : (w'.setCell ⟨G, k, none⟩ (.slice (some ⟨g', 0, none⟩) (xs.length + 1) c')).heap.size = w'.heap.size := by simp [World.setCell]
    rw [hsz]
    refine ⟨by rw [List.length_set, List.length_set, hin.len], fun j y ys hj hy => ?_, fun i j y y' b b' hi' hj hb hb' hij => ?_⟩
    · by_cases hjk : k = j
      · subst hjk
        rw [List.getElem?_set_self hkl] at hj
        rw [List.getElem?_set_self hkx] at hy
        injection hj with hj; injection hy with hy
        subst hj; subst hy
        exact ho.at_block (fun b e => by
          injection e with e; subst e
          exact Below.heap_setCell w' _ _ g' (by exact hg'G))
      · rw [List.getElem?_set_ne hjk] at hj hy
        have hr := hin.own j y ys hj hy
        refine Own.at_block (w := w) (hr.wide (Nat.le_refl _) hg.size) (fun b e => ?_)
        obtain ⟨h1, h2, h3, _⟩ := hoth j b y hj e (fun e => hjk e.symm)
        rw [Below.heap_setCell w' _ _ b.block (by exact h2)]
        exact hg.block b.block h1 h3
    · by_cases hik : k = i <;> by_cases hjk : k = j
      · omega
      · subst hik
        rw [List.getElem?_set_self hkl] at hi'
        rw [List.getElem?_set_ne hjk] at hj
        injection hi' with hi'; subst hi'
        injection hb with hb; subst hb
        exact fun e => (hoth j b' y' hj hb' (fun e => hjk e.symm)).2.2.2 e.symm
      · subst hjk
        rw [List.getElem?_set_self hkl] at hj
        rw [List.getElem?_set_ne hik] at hi'
        injection hj with hj; subst hj
        injection hb' with hb'; subst hb'
        exact (hoth i b y hi' hb (fun e => hik e.symm)).2.2.2
      · rw [List.getElem?_set_ne hik] at hi'
        rw [List.getElem?_set_ne hjk] at hj
        exact hin.apart i j y y' b b' hi' hj hb hb' hij
end
/-- append of a new row of one number. -/
theorem wpList_lev {K0 Z : Nat} {w4 w : World} {A : Option Addr} {c : Nat} {xss : List (List Int)} {ops : Array Oper} {rest : List Oper} {o : Oper} {a : Act} {Q : Exit → Act → World → Prop} (hgd : o.guard = none) (s x : Operand)
    (hop : o.op = .call { callee := .builtin .append, args := #[s, x], argTypes := #[58, 58] }) (h : LevOwn K0 Z w4 w A c xss) (u : Int) (hlen : xss.length ≤ 1048576)
    (n : Nat) (hn : n = xss.length) (hs : a.eval s = .slice A n c) (hx : a.eval x = .slice (some ⟨w.heap.size + 1, 0, none⟩) 1 1)
    (hK : ∀ g' c' w', LevOwn K0 Z w4 w' (some ⟨g', 0, none⟩) c' (xss ++ [[u]]) → wpList Try.prog ops Q rest (a.put o.dst (.slice (some ⟨g', 0, none⟩) (n + 1) c')) w') :
    wpList Try.prog ops Q (o :: rest) a ((w.alloc (.cells #[.int .i64 u] 3)).alloc (.cells #[.slice (some ⟨w.heap.size, 0, none⟩) 1 1] 33)) := by
  have hb : Below w.heap.size w (w.alloc (.cells #[.int .i64 u] 3)) := (Below.refl _ _).alloc (Nat.le_refl _) _
  have hr : Own 3 w.heap.size (w.heap.size + 1) (w.alloc (.cells #[.int .i64 u] 3)) (some ⟨w.heap.size, 0, none⟩) 1 ([u].map (.int .i64)) := own_new1 3 w (.int .i64 u)
  have hz : (w.alloc (.cells #[.int .i64 u] 3)).heap.size = w.heap.size + 1 := by simp
  have h1 := h.below hb
  have hge := h.ge
  obtain ⟨hs0, ho0, hi0⟩ := h.own
  generalize w.alloc (.cells #[.int .i64 u] 3) = w1 at hb hr hz h1 ⊢
  have ho1 := (ho0.below hb).wide (Nat.le_refl _) hb.size
  have hi1 : Inner 3 Z w1.heap.size w1 (hs0 ++ [(some ⟨w.heap.size, 0, none⟩, 1)]) (xss ++ [[u]]) := by
    refine (hi0.below hb).snoc (mid := w.heap.size) (hr.wide (Nat.le_refl _) (by omega)) hge hb.size
  rw [← hz] at hx
  refine wpList_app1l hgd s x 58 hop 33 (.slice none 0 0) 24 Try.underlying58 info_ints rfl w1 K0 A c (List.zipWith hdr hs0 xss) ho1 (by have := h.le; have := hb.size; omega) (.slice (some ⟨w.heap.size, 0, none⟩) 1 1) rfl (by rw [List.length_zipWith, hi0.len, Nat.min_self]; exact hlen) (by decide) n (by rw [List.length_zipWith, hi0.len, Nat.min_self]; exact hn) hs hx ?_
  intro g' c' w' ho' hg' _ hl'
  refine hK g' c' w' ⟨⟨hs0 ++ [(some ⟨w.heap.size, 0, none⟩, 1)], ?_, ?_⟩, ?_, ?_, h.le, h.size⟩
  · rw [List.zipWith_append hi0.len]; exact ho'
  · cases A with
    | none =>
      refine (hi1.stay fun g _ h2 => ?_).wide (Nat.le_refl _) hg'.size
      exact hg'.block g h2 (by simp [Value.ownBlock])
    | some aa =>
      obtain ⟨_, _, eb⟩ := ho1.le
      rw [eb] at ho1
      exact (inner_out (G := aa.block) (n := n) hi1 ⟨_, _, ho1⟩ hg' (Nat.le_refl _)).wide (Nat.le_refl _) hg'.size
  · intro b e
    injection e with e
    subst e
    rcases hl' with hl' | hl'
    · cases A with
      | none => simp [Value.ownBlock] at hl'
      | some aa =>
        simp only [Value.ownBlock, Option.some.injEq] at hl'
        have := h.place aa rfl
        show g' = K0 ∨ Z ≤ g'
        omega
    · show g' = K0 ∨ Z ≤ g'
      have := hb.size; right; omega
  · cases A with
    | none =>
      exact ⟨hg'.os.trans h1.only.os, hg'.tape.trans h1.only.tape, hg'.output.trans h1.only.output, Nat.le_trans h1.only.size hg'.size, fun k hk hd => (hg'.block k (Nat.lt_of_lt_of_le hk h1.only.size) (by simp [Value.ownBlock])).trans (h1.only.block k hk hd)⟩
    | some aa => exact only_stepZ h.size h1.only (h.place aa rfl) hg'
end Go.Proofs.Ytehlijpjcjegcaa
