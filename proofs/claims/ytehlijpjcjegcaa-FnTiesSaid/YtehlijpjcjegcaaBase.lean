/- Shared words for memory, used by all proofs of this seat: slices that read as lists, rows of a call's own, frames between two worlds; no program in sight. -/
import Derived.WalkKit
import Derived.WalkLawsBesides
import Derived.BigQuiet
import Derived.BigGuardPart
import Derived.Lib.Hide
import Derived.Deep.LoopGhost
import Derived.Deep.DeepCutAuto
import Derived.Deep.DeepFit
import Derived.Deep.DeepMust
import Derived.Deep.OwnRows
import Derived.Deep.AppendLies
import Derived.Maps.AppendAt
namespace Go.Proofs.Ytehlijpjcjegcaa
open Go.RowKit

theorem ret_bool {a b : Bool} (h : a = b) : Ending.returned (.bool a) = .returned (.bool b) := by rw [h]
theorem ret_int {k : IntKind} {a b : Int} (h : a = b) : Ending.returned (.int k a) = .returned (.int k b) := by rw [h]

/-! ### Lists -/
theorem drop_of {α : Type} {l : List α} {k : Nat} {u : α} (h : l[k]? = some u) : l.drop k = u :: l.drop (k + 1) := by
  obtain ⟨hk, rfl⟩ := List.getElem?_eq_some_iff.1 h
  exact List.drop_eq_getElem_cons hk
theorem take_of {α : Type} {l : List α} {k : Nat} {u : α} (h : l[k]? = some u) : l.take (k + 1) = l.take k ++ [u] := by
  obtain ⟨hk, rfl⟩ := List.getElem?_eq_some_iff.1 h
  rw [List.take_add_one, List.getElem?_eq_getElem hk]; rfl
theorem some_of {α : Type} {l : List α} {k : Nat} (h : k < l.length) : ∃ u, l[k]? = some u := ⟨l[k], List.getElem?_eq_getElem h⟩
theorem lt_of {α : Type} {l : List α} {k : Nat} {u : α} (h : l[k]? = some u) : k < l.length := (List.getElem?_eq_some_iff.1 h).1
theorem drop_end {α : Type} {l : List α} {k : Nat} (h : l.length ≤ k) : l.drop k = [] := List.drop_eq_nil_iff.2 h
theorem map_some {α β : Type} {f : α → β} {l : List α} {k : Nat} {u : α} (h : l[k]? = some u) : (l.map f)[k]? = some (f u) := by
  rw [List.getElem?_map, h]; rfl
theorem some_map {α β : Type} {f : α → β} {l : List α} {k : Nat} {v : β} (h : (l.map f)[k]? = some v) : ∃ u, l[k]? = some u ∧ f u = v := by
  rw [List.getElem?_map] at h
  cases hl : l[k]? with
  | none => rw [hl] at h; cases h
  | some u => rw [hl] at h; exact ⟨u, rfl, by injection h⟩

/-! ### What every readable cell keeps -/
def Keep (w w' : World) : Prop := ∀ p v, w.cell? p = some v → w'.cell? p = some v
theorem Keep.refl (w : World) : Keep w w := fun _ _ h => h
theorem Keep.trans {a b c : World} (h : Keep a b) (k : Keep b c) : Keep a c := fun p v hp => k p v (h p v hp)
theorem Keep.drewN (w : World) (n : Nat) : Keep w (w.drewN n) := fun _ _ h => h
theorem keep_of_below {w w' : World} (h : Below w.heap.size w w') : Keep w w' := fun p v hp => by
  have hlt : p.block < w.heap.size := World.block_lt_of_cell? w p hp
  rw [h.cell hlt]; exact hp
theorem below_drewN (B : Nat) (w : World) (n : Nat) : Below B w (w.drewN n) := ⟨rfl, rfl, rfl, Nat.le_refl _, fun _ _ => rfl⟩
theorem bdN {B : Nat} {a w : World} (h : Below B a w) (n : Nat) : Below B a (w.drewN n) := h.trans (below_drewN B w n)

/-- Draws alone. -/
def Dr (w w' : World) : Prop := ∃ q, w' = w.drewN q
theorem Dr.refl (w : World) : Dr w w := ⟨0, rfl⟩
theorem Dr.trans {a b c : World} (h : Dr a b) (k : Dr b c) : Dr a c := by
  obtain ⟨m, rfl⟩ := h
  obtain ⟨n, rfl⟩ := k
  exact ⟨m + n, World.drewN_drewN ..⟩
theorem Dr.dN {a b : World} (h : Dr a b) (n : Nat) : Dr a (b.drewN n) := h.trans ⟨n, rfl⟩
theorem Dr.keep {a b : World} (h : Dr a b) : Keep a b := by
  obtain ⟨m, rfl⟩ := h
  exact Keep.drewN a m
theorem Dr.below {a b : World} (h : Dr a b) (B : Nat) : Below B a b := by
  obtain ⟨m, rfl⟩ := h
  exact below_drewN B a m

/-! ### Slices that read as lists -/
def Ints (w : World) (A : Option Addr) (xs : List Int) : Prop := ∀ k u, xs[k]? = some u → ∃ ad, A = some ad ∧ w.cell? (ad.add k) = some (.int .i64 u)
def Rows (w : World) (A : Option Addr) (xss : List (List Int)) : Prop :=
  ∀ k xs, xss[k]? = some xs → ∃ ad a c, A = some ad ∧ xs.length ≤ c ∧ c ≤ maxLen ∧ w.cell? (ad.add k) = some (.slice a xs.length c) ∧ Ints w a xs
theorem Ints.keep {w w' : World} {A : Option Addr} {xs : List Int} (h : Ints w A xs) (k : Keep w w') : Ints w' A xs := fun i u hu => by
  obtain ⟨ad, e, hc⟩ := h i u hu
  exact ⟨ad, e, k _ _ hc⟩
theorem Rows.keep {w w' : World} {A : Option Addr} {xss : List (List Int)} (h : Rows w A xss) (k : Keep w w') : Rows w' A xss := fun i u hu => by
  obtain ⟨ad, a, c, e, hl, hm, hc, hi⟩ := h i u hu
  exact ⟨ad, a, c, e, hl, hm, k _ _ hc, hi.keep k⟩
theorem Ints.drewN {w : World} {A : Option Addr} {xs : List Int} (h : Ints w A xs) (n : Nat) : Ints (w.drewN n) A xs := h
theorem Rows.drewN {w : World} {A : Option Addr} {xss : List (List Int)} (h : Rows w A xss) (n : Nat) : Rows (w.drewN n) A xss := h
theorem Ints.nil (w : World) (A : Option Addr) : Ints w A [] := fun _ _ h => by simp at h
theorem Rows.nil (w : World) (A : Option Addr) : Rows w A [] := fun _ _ h => by simp at h

/-! ### A slice that the call itself made: nil, or the head of a block of its own between 'lo' and 'hi' -/
def Own (T : TypeId) (lo hi : Nat) (w : World) (A : Option Addr) (c : Nat) (us : List Value) : Prop :=
  us.length ≤ c ∧ c ≤ maxLen ∧ ((A = none ∧ us = [] ∧ c = 0) ∨
    ∃ g cs, A = some ⟨g, 0, none⟩ ∧ lo ≤ g ∧ g < hi ∧ w.heap[g]? = some (.cells cs T (0, 0)) ∧ cs.size = c ∧ cs.toList.take us.length = us)

theorem Own.nil (T : TypeId) (lo hi : Nat) (w : World) : Own T lo hi w none 0 [] := ⟨by simp, by simp [maxLen], .inl ⟨rfl, rfl, rfl⟩⟩
theorem Own.ownsRow {T : TypeId} {lo hi : Nat} {w : World} {A : Option Addr} {c : Nat} {us : List Value} (h : Own T lo hi w A c us) :
    w.ownsRow lo T 1 (.slice A us.length c) us.length us := by
  obtain ⟨hl, hm, h⟩ := h
  refine ⟨by simp, ?_⟩
  rcases h with ⟨rfl, rfl, rfl⟩ | ⟨g, cs, rfl, h1, _, h2, h3, h4⟩
  · exact .inl ⟨by simp, rfl⟩
  · exact .inr ⟨g, c, cs, rfl, h1, h2, hl, hm, by simpa using h3, by simpa using h4⟩
theorem Own.of_row {T : TypeId} {lo : Nat} {w : World} {v : Value} {n : Nat} {us : List Value} (h : w.ownsRow lo T 1 v n us) :
    ∃ A c, v = .slice A us.length c ∧ us.length = n ∧ Own T lo w.heap.size w A c us := by
  obtain ⟨hl, h⟩ := h
  simp only [Nat.mul_one] at hl
  rcases h with ⟨rfl, rfl⟩ | ⟨g, c, cs, rfl, h1, h2, h3, h4, h5, h6⟩
  · have : us = [] := List.eq_nil_of_length_eq_zero hl
    subst this
    exact ⟨none, 0, rfl, rfl, Own.nil ..⟩
  · refine ⟨_, c, by rw [hl], hl, by omega, h4, .inr ⟨g, cs, rfl, h1, (Array.getElem?_eq_some_iff.1 h2).1, h2, by simpa using h5, ?_⟩⟩
    rw [hl]; simpa using h6
theorem Own.at_ {T : TypeId} {lo hi : Nat} {w : World} {A : Option Addr} {c : Nat} {us : List Value} (h : Own T lo hi w A c us) {k : Nat} {u : Value} (hk : us[k]? = some u) :
    ∃ g, A = some ⟨g, 0, none⟩ ∧ lo ≤ g ∧ g < hi ∧ w.cell? ⟨g, k, none⟩ = some u ∧ w.frozen? ⟨g, k, none⟩ = false := by
  obtain ⟨hl, hm, h⟩ := h
  rcases h with ⟨_, rfl, _⟩ | ⟨g, cs, rfl, h1, h1', h2, h3, h4⟩
  · simp at hk
  · refine ⟨g, rfl, h1, h1', ?_, ?_⟩
    · rw [cell_of_row w g k cs T (0, 0) h2]
      have hlt := lt_of hk
      rw [← h4, List.getElem?_take, if_pos hlt] at hk
      simpa using hk
    · simp [World.frozen?, h2]
theorem addr_zero_add (g k : Nat) : (⟨g, 0, none⟩ : Addr).add k = ⟨g, k, none⟩ := by unfold Addr.add; split <;> simp_all
theorem Own.ints {T : TypeId} {lo hi : Nat} {w : World} {A : Option Addr} {c : Nat} {xs : List Int} (h : Own T lo hi w A c (xs.map (.int .i64))) : Ints w A xs := fun k u hu => by
  obtain ⟨g, rfl, _, _, hc, _⟩ := h.at_ (map_some hu)
  exact ⟨_, rfl, by rw [addr_zero_add]; exact hc⟩
theorem Own.wide {T : TypeId} {lo hi lo' hi' : Nat} {w : World} {A : Option Addr} {c : Nat} {us : List Value} (h : Own T lo hi w A c us) (h1 : lo' ≤ lo) (h2 : hi ≤ hi') : Own T lo' hi' w A c us := by
  obtain ⟨hl, hm, h⟩ := h
  refine ⟨hl, hm, ?_⟩
  rcases h with h | ⟨g, cs, e, a1, a2, r⟩
  · exact .inl h
  · exact .inr ⟨g, cs, e, by omega, by omega, r⟩
/-- It stays over any step that leaves the blocks between 'lo' and 'hi'. -/
theorem Own.stay {T : TypeId} {lo hi : Nat} {w w' : World} {A : Option Addr} {c : Nat} {us : List Value} (h : Own T lo hi w A c us) (k : ∀ g, lo ≤ g → g < hi → w'.heap[g]? = w.heap[g]?) : Own T lo hi w' A c us := by
  obtain ⟨hl, hm, h⟩ := h
  refine ⟨hl, hm, ?_⟩
  rcases h with h | ⟨g, cs, e, a1, a2, a3, r⟩
  · exact .inl h
  · exact .inr ⟨g, cs, e, a1, a2, (k g a1 a2).trans a3, r⟩
theorem Own.below {T : TypeId} {lo hi : Nat} {w w' : World} {A : Option Addr} {c : Nat} {us : List Value} (h : Own T lo hi w A c us) (k : Below hi w w') : Own T lo hi w' A c us :=
  h.stay fun g _ h2 => k.block g h2
/-- One cell written. -/
theorem Own.set_ {T : TypeId} {lo hi : Nat} {w : World} {c g : Nat} {us : List Value} (h : Own T lo hi w (some ⟨g, 0, none⟩) c us) (k : Nat) (u : Value) :
    Own T lo hi (w.setCell ⟨g, k, none⟩ u) (some ⟨g, 0, none⟩) c (us.set k u) := by
  obtain ⟨hl, hm, h⟩ := h
  refine ⟨by simpa using hl, hm, ?_⟩
  rcases h with ⟨h, _⟩ | ⟨g', cs, e, a1, a2, a3, a4, a5⟩
  · cases h
  · obtain rfl : g = g' := by injection e with e; injection e
    refine .inr ⟨g, cs.setIfInBounds k u, rfl, a1, a2, ?_, by simpa using a4, ?_⟩
    · simp [World.setCell, Array.getElem?_modify, a3]
    · rw [Array.toList_setIfInBounds, List.length_set, List.take_set, a5]

/-! ### Frames: the blocks outside of '[lo, hi)' stay -/
structure Only (lo hi : Nat) (w w' : World) : Prop where
  os : w'.os = w.os
  tape : w'.tape = w.tape
  output : w'.output = w.output
  size : w.heap.size ≤ w'.heap.size
  block : ∀ k, k < w.heap.size → (k < lo ∨ hi ≤ k) → w'.heap[k]? = w.heap[k]?
theorem Only.refl (lo hi : Nat) (w : World) : Only lo hi w w := ⟨rfl, rfl, rfl, Nat.le_refl _, fun _ _ _ => rfl⟩
theorem Only.trans {lo hi : Nat} {a b c : World} (h : Only lo hi a b) (k : Only lo hi b c) : Only lo hi a c :=
  ⟨k.os.trans h.os, k.tape.trans h.tape, k.output.trans h.output, Nat.le_trans h.size k.size, fun i hi ho => (k.block i (Nat.lt_of_lt_of_le hi h.size) ho).trans (h.block i hi ho)⟩
theorem Only.wide {lo hi lo' hi' : Nat} {a b : World} (h : Only lo hi a b) (h1 : lo' ≤ lo) (h2 : hi ≤ hi') : Only lo' hi' a b :=
  ⟨h.os, h.tape, h.output, h.size, fun k hk ho => h.block k hk (by omega)⟩
theorem Only.drewN {lo hi : Nat} {a b : World} (h : Only lo hi a b) (n : Nat) : Only lo hi a (b.drewN n) := ⟨h.os, h.tape, h.output, h.size, h.block⟩
theorem Only.setCell {lo hi : Nat} {a b : World} (h : Only lo hi a b) {g k : Nat} (h1 : lo ≤ g) (h2 : g < hi) (u : Value) : Only lo hi a (b.setCell ⟨g, k, none⟩ u) :=
  ⟨h.os, h.tape, h.output, by simpa [World.setCell] using h.size, fun i hi ho => (Below.heap_setCell b ⟨g, k, none⟩ u i (by show i ≠ g; omega)).trans (h.block i hi ho)⟩
theorem Only.alloc {lo hi : Nat} {a b : World} (h : Only lo hi a b) (o : Obj) : Only lo hi a (b.alloc o) :=
  ⟨h.os, h.tape, h.output, Nat.le_trans h.size (by simp), fun i hi ho => (Below.heap_alloc b o i (Nat.lt_of_lt_of_le hi h.size)).trans (h.block i hi ho)⟩
theorem only_of_below {B lo hi : Nat} {w w' : World} (h : Below B w w') (hB : w.heap.size ≤ B) : Only lo hi w w' := ⟨h.os, h.tape, h.output, h.size, fun k hk _ => h.block k (by omega)⟩
theorem below_of_only {B lo hi : Nat} {w w' : World} (h : Only lo hi w w') (hB : B ≤ lo) (hs : B ≤ w.heap.size) : Below B w w' := ⟨h.os, h.tape, h.output, h.size, fun k hk => h.block k (by omega) (by omega)⟩
theorem Own.only {T : TypeId} {lo hi lo' hi' : Nat} {w w' : World} {A : Option Addr} {c : Nat} {us : List Value} (h : Own T lo hi w A c us) (k : Only lo' hi' w w') (hs : hi ≤ w.heap.size) (hd : hi ≤ lo' ∨ hi' ≤ lo) : Own T lo hi w' A c us :=
  h.stay fun g h1 h2 => k.block g (by omega) (by omega)

/-! ### Rows of rows that the call itself made; no two share memory -/
def hdr (h : Option Addr × Nat) (xs : List Int) : Value := .slice h.1 xs.length h.2
/-- The inner rows. -/
structure Inner (T : TypeId) (lo hi : Nat) (w : World) (hs : List (Option Addr × Nat)) (xss : List (List Int)) : Prop where
  len : hs.length = xss.length
  own : ∀ (k : Nat) (h : Option Addr × Nat) (xs : List Int), hs[k]? = some h → xss[k]? = some xs → Own T lo hi w h.1 h.2 (xs.map (.int .i64))
  apart : ∀ (i j : Nat) (h h' : Option Addr × Nat) (a a' : Addr), hs[i]? = some h → hs[j]? = some h' → h.1 = some a → h'.1 = some a' → i ≠ j → a.block ≠ a'.block
def Own2 (T TT : TypeId) (lo hi : Nat) (w : World) (A : Option Addr) (c : Nat) (xss : List (List Int)) : Prop :=
  ∃ hs : List (Option Addr × Nat), Own TT lo hi w A c (List.zipWith hdr hs xss) ∧ Inner T lo hi w hs xss

theorem zip_some {hs : List (Option Addr × Nat)} {xss : List (List Int)} {k : Nat} {h : Option Addr × Nat} {xs : List Int} (h1 : hs[k]? = some h) (h2 : xss[k]? = some xs) :
    (List.zipWith hdr hs xss)[k]? = some (hdr h xs) := by
  rw [List.getElem?_zipWith, h1, h2]
section
variable {T TT : TypeId} {lo hi lo' hi' : Nat} {w w' : World} {A : Option Addr} {c : Nat} {xss : List (List Int)} {hs : List (Option Addr × Nat)}
theorem Inner.nil (T : TypeId) (lo hi : Nat) (w : World) : Inner T lo hi w [] [] := ⟨rfl, fun k h xs h1 _ => by simp at h1, fun i j h h' a a' h1 => by simp at h1⟩
theorem Inner.stay (h : Inner T lo hi w hs xss) (k : ∀ g, lo ≤ g → g < hi → w'.heap[g]? = w.heap[g]?) : Inner T lo hi w' hs xss :=
  ⟨h.len, fun i x xs a b => (h.own i x xs a b).stay k, h.apart⟩
theorem Inner.below (h : Inner T lo hi w hs xss) (k : Below hi w w') : Inner T lo hi w' hs xss := h.stay fun g _ h2 => k.block g h2
theorem Inner.only (h : Inner T lo hi w hs xss) (k : Only lo' hi' w w') (hs' : hi ≤ w.heap.size) (hd : hi ≤ lo' ∨ hi' ≤ lo) : Inner T lo hi w' hs xss :=
  h.stay fun g h1 h2 => k.block g (by omega) (by omega)
theorem Inner.wide (h : Inner T lo hi w hs xss) (h1 : lo' ≤ lo) (h2 : hi ≤ hi') : Inner T lo' hi' w hs xss := ⟨h.len, fun i x xs a b => (h.own i x xs a b).wide h1 h2, h.apart⟩
theorem Inner.lt (h : Inner T lo hi w hs xss) {k : Nat} {x : Option Addr × Nat} {a : Addr} (hk : hs[k]? = some x) (ha : x.1 = some a) : a.block < hi := by
  obtain ⟨xs, hx⟩ := some_of (l := xss) (k := k) (by rw [← h.len]; exact lt_of hk)
  obtain ⟨_, _, h3⟩ := h.own k x xs hk hx
  rcases h3 with ⟨e, _⟩ | ⟨g, cs, e, _, h4, _⟩
  · rw [ha] at e; cases e
  · rw [ha] at e; injection e with e; subst e; exact h4
/-- One row more, in memory that is newer than all others'. -/
theorem Inner.snoc {a : Option Addr} {c' : Nat} {xs : List Int} {mid : Nat} (h : Inner T lo mid w hs xss) (ho : Own T mid hi w a c' (xs.map (.int .i64))) (h1 : lo ≤ mid) (h2 : mid ≤ hi) :
    Inner T lo hi w (hs ++ [(a, c')]) (xss ++ [xs]) := by
  refine ⟨by simp [h.len], fun k x ys hk hx => ?_, fun i j x x' b b' hi' hj hb hb' hne => ?_⟩
  · rw [List.getElem?_append] at hk hx
    by_cases hlt : k < hs.length
    · rw [if_pos hlt] at hk
      rw [if_pos (by rw [← h.len]; exact hlt)] at hx
      exact (h.own k x ys hk hx).wide (Nat.le_refl _) h2
    · rw [if_neg hlt] at hk
      rw [if_neg (by rw [← h.len]; exact hlt)] at hx
      have e1 := lt_of hk
      have e2 : k - hs.length = 0 := by simpa using e1
      rw [e2] at hk
      rw [← h.len, e2] at hx
      simp only [List.getElem?_cons_zero, Option.some.injEq] at hk hx
      subst hk; subst hx
      exact ho.wide h1 (Nat.le_refl _)
  · have hob : ∀ b : Addr, a = some b → mid ≤ b.block := fun b hb => by
      obtain ⟨_, _, h3⟩ := ho
      rcases h3 with ⟨e, _⟩ | ⟨g, cs, e, h4, _⟩
      · rw [hb] at e; cases e
      · rw [hb] at e; injection e with e; subst e; exact h4
    rw [List.getElem?_append] at hi' hj
    by_cases hl1 : i < hs.length <;> by_cases hl2 : j < hs.length
    · rw [if_pos hl1] at hi'; rw [if_pos hl2] at hj
      exact h.apart i j x x' b b' hi' hj hb hb' hne
    · rw [if_pos hl1] at hi'; rw [if_neg hl2] at hj
      have e2 : j - hs.length = 0 := by have := lt_of hj; simpa using this
      rw [e2] at hj
      simp only [List.getElem?_cons_zero, Option.some.injEq] at hj
      subst hj
      have h3 := h.lt hi' hb
      have h4 := hob b' hb'
      omega
    · rw [if_neg hl1] at hi'; rw [if_pos hl2] at hj
      have e2 : i - hs.length = 0 := by have := lt_of hi'; simpa using this
      rw [e2] at hi'
      simp only [List.getElem?_cons_zero, Option.some.injEq] at hi'
      subst hi'
      have h3 := h.lt hj hb'
      have h4 := hob b hb
      omega
    · rw [if_neg hl1] at hi'; rw [if_neg hl2] at hj
      have e1 : i - hs.length = 0 := by have := lt_of hi'; simpa using this
      have e2 : j - hs.length = 0 := by have := lt_of hj; simpa using this
      omega
theorem Own2.rows (h : Own2 T TT lo hi w A c xss) : Rows w A xss := by
  obtain ⟨hs, ho, hi⟩ := h
  intro k xs hx
  obtain ⟨h, hh⟩ := some_of (l := hs) (k := k) (by rw [hi.len]; exact lt_of hx)
  obtain ⟨g, rfl, _, _, hc, _⟩ := ho.at_ (zip_some hh hx)
  have hx' := hi.own k h xs hh hx
  exact ⟨_, h.1, h.2, rfl, by simpa using hx'.1, hx'.2.1, by rw [addr_zero_add]; exact hc, hx'.ints⟩
theorem Own2.below (h : Own2 T TT lo hi w A c xss) (k : Below hi w w') : Own2 T TT lo hi w' A c xss := by
  obtain ⟨hs, ho, hi⟩ := h
  exact ⟨hs, ho.below k, hi.below k⟩
theorem Own2.only (h : Own2 T TT lo hi w A c xss) (k : Only lo' hi' w w') (hs : hi ≤ w.heap.size) (hd : hi ≤ lo' ∨ hi' ≤ lo) : Own2 T TT lo hi w' A c xss := by
  obtain ⟨hh, ho, hi⟩ := h
  exact ⟨hh, ho.only k hs hd, hi.only k hs hd⟩
theorem Own2.nil (T TT : TypeId) (lo hi : Nat) (w : World) : Own2 T TT lo hi w none 0 [] := ⟨[], Own.nil .., Inner.nil ..⟩
theorem Own2.le (h : Own2 T TT lo hi w A c xss) : xss.length ≤ c ∧ c ≤ maxLen := by
  obtain ⟨hh, ho, hi⟩ := h
  have h1 := ho.1
  have h2 := ho.2.1
  rw [List.length_zipWith, hi.len, Nat.min_self] at h1
  exact ⟨h1, h2⟩
theorem Own2.wide (h : Own2 T TT lo hi w A c xss) (h1 : lo' ≤ lo) (h2 : hi ≤ hi') : Own2 T TT lo' hi' w A c xss := by
  obtain ⟨hh, ho, hi⟩ := h
  exact ⟨hh, ho.wide h1 h2, hi.wide h1 h2⟩
theorem zip_set {hs : List (Option Addr × Nat)} : ∀ {xss : List (List Int)} {k : Nat} {xs ys : List Int}, xss[k]? = some xs → ys.length = xs.length →
    List.zipWith hdr hs (xss.set k ys) = List.zipWith hdr hs xss := by
  intro xss k xs ys hx hl
  apply List.ext_getElem?
  intro i
  rw [List.getElem?_zipWith, List.getElem?_zipWith, List.getElem?_set]
  by_cases hik : k = i
  · subst hik
    rw [if_pos rfl, if_pos (lt_of hx), hx]
    cases hs[k]? <;> simp [hdr, hl]
  · rw [if_neg hik]
/-- One inner row, taken out, written, and put back. -/
theorem Own2.row (h : Own2 T TT lo hi w A c xss) (hT : T ≠ TT) (hsz : hi ≤ w.heap.size) {k : Nat} {xs : List Int} (hx : xss[k]? = some xs) :
    ∃ ad a c' g, A = some ad ∧ w.cell? (ad.add k) = some (.slice a xs.length c') ∧ Own T g (g + 1) w a c' (xs.map (.int .i64)) ∧
      ∀ (w' : World) (ys : List Int), ys.length = xs.length → Only g (g + 1) w w' → Own T g (g + 1) w' a c' (ys.map (.int .i64)) → Own2 T TT lo hi w' A c (xss.set k ys) ∧ Only lo hi w w' := by
  obtain ⟨hs, ho, hin⟩ := h
  obtain ⟨x, hh⟩ := some_of (l := hs) (k := k) (by rw [hin.len]; exact lt_of hx)
  obtain ⟨g0, rfl, hg0, hg0', hc, _⟩ := ho.at_ (zip_some hh hx)
  have hix := hin.own k x xs hh hx
  obtain ⟨h1, h2, h3⟩ := hix
  rcases h3 with ⟨e1, e2, e3⟩ | ⟨g, cs, e1, e2, e3, e4, e5, e6⟩
  · have hxs : xs = [] := by simpa using e2
    subst hxs
    refine ⟨_, x.1, x.2, w.heap.size, rfl, by rw [addr_zero_add]; exact hc, ⟨h1, h2, .inl ⟨e1, rfl, e3⟩⟩, fun w' ys hl hw _ => ?_⟩
    have hys : ys = [] := List.eq_nil_of_length_eq_zero hl
    subst hys
    have hst : ∀ g, lo ≤ g → g < hi → w'.heap[g]? = w.heap[g]? := fun g _ hg => hw.block g (by omega) (by omega)
    have hset : xss.set k [] = xss := by
      apply List.ext_getElem?
      intro i
      rw [List.getElem?_set]
      by_cases hik : k = i
      · subst hik; rw [if_pos rfl, if_pos (lt_of hx), hx]
      · rw [if_neg hik]
    rw [hset]
    exact ⟨⟨hs, ho.stay hst, hin.stay hst⟩, ⟨hw.os, hw.tape, hw.output, hw.size, fun i hi _ => hw.block i hi (by omega)⟩⟩
  · refine ⟨_, x.1, x.2, g, rfl, by rw [addr_zero_add]; exact hc, ⟨h1, h2, .inr ⟨g, cs, e1, Nat.le_refl _, by omega, e4, e5, e6⟩⟩, fun w' ys hl hw hown => ?_⟩
    have hne : g ≠ g0 := by
      rintro rfl
      obtain ⟨_, _, ho3⟩ := ho
      rcases ho3 with ⟨e, _⟩ | ⟨g', cs', e, _, _, e7, _⟩
      · cases e
      · injection e with e
        injection e with e
        subst e
        rw [e4] at e7
        injection e7 with e7
        injection e7 with _ e8
        exact hT e8
    refine ⟨⟨hs, ?_, ⟨by rw [List.length_set]; exact hin.len, fun i y zs hi1 hi2 => ?_, hin.apart⟩⟩, hw.wide e2 (by omega)⟩
    · rw [zip_set hx hl]
      obtain ⟨ha, hb, ho3⟩ := ho
      refine ⟨ha, hb, ?_⟩
      rcases ho3 with ho3 | ⟨g', cs', e, f1, f2, f3, f4⟩
      · exact .inl ho3
      · refine .inr ⟨g', cs', e, f1, f2, ?_, f4⟩
        injection e with e
        injection e with e
        rw [hw.block g' (by omega) (by omega)]
        exact f3
    · rw [List.getElem?_set] at hi2
      by_cases hik : k = i
      · subst hik
        rw [if_pos rfl, if_pos (lt_of hx)] at hi2
        injection hi2 with hi2
        subst hi2
        rw [hh] at hi1
        injection hi1 with hi1
        subst hi1
        exact hown.wide e2 (by omega)
      · rw [if_neg hik] at hi2
        have hy := hin.own i y zs hi1 hi2
        obtain ⟨f1, f2, f3⟩ := hy
        refine ⟨f1, f2, ?_⟩
        rcases f3 with f3 | ⟨g', cs', e, f4, f5, f6, f7⟩
        · exact .inl f3
        · refine .inr ⟨g', cs', e, f4, f5, ?_, f7⟩
          have hd := hin.apart k i x y _ _ hh hi1 e1 e hik
          have hd' : g ≠ g' := hd
          rw [hw.block g' (by omega) (by omega)]
          exact f6
end

/-! ### Filling a row cell by cell -/
theorem fill_at {α : Type} {new old : List α} {k : Nat} (h : k ≤ new.length) : (new.take k ++ old.drop k)[k]? = old[k]? := by
  rw [List.getElem?_append_right (by simp; omega)]
  simp [Nat.min_eq_left h]
theorem fill_step {α : Type} {new old : List α} {k : Nat} {u : α} (h1 : new[k]? = some u) (h2 : k < old.length) : (new.take k ++ old.drop k).set k u = new.take (k + 1) ++ old.drop (k + 1) := by
  have hk := lt_of h1
  rw [List.set_append_right _ _ (by simp; omega), take_of h1]
  have e : k - (new.take k).length = 0 := by simp; omega
  obtain ⟨v, hv⟩ := some_of h2
  rw [e, drop_of hv]
  simp
theorem fill_length {α : Type} {new old : List α} {k : Nat} (h1 : k ≤ new.length) (h2 : new.length = old.length) : (new.take k ++ old.drop k).length = old.length := by
  simp; omega

/-! ### Posts -/
/-- A new row of ints comes back; what was there stays. -/
def GivesI (T : TypeId) (w : World) (xs : List Int) (e : Ending) (w' : World) : Prop :=
  ∃ A c, e = .returned (.slice A xs.length c) ∧ Own T w.heap.size w'.heap.size w' A c (xs.map (.int .i64)) ∧ Below w.heap.size w w'
/-- New rows of new rows come back. -/
def GivesII (T TT : TypeId) (w : World) (xss : List (List Int)) (e : Ending) (w' : World) : Prop :=
  ∃ A c, e = .returned (.slice A xss.length c) ∧ Own2 T TT w.heap.size w'.heap.size w' A c xss ∧ Below w.heap.size w w'
def Gives (w : World) (v : Value) (e : Ending) (w' : World) : Prop := e = .returned v ∧ Below w.heap.size w w'
def Quiet (w : World) (v : Value) (e : Ending) (w' : World) : Prop := e = .returned v ∧ Dr w w'
theorem quiet_call {P : Program} {f : FuncId} {args : Array Value} {w : World} {n : Nat} {v : Value} (h : Calls P f args (w.drewN n) (Quiet (w.drewN n) v)) :
    Calls P f args (w.drewN n) fun e w'' => e = .returned v ∧ ∃ m, w'' = w.drewN m :=
  h.mono fun _ _ ⟨he, m, hm⟩ => ⟨he, n + m, by rw [hm, World.drewN_drewN]⟩
theorem quiet_call2 {P : Program} {f : FuncId} {args : Array Value} {w : World} {a n : Nat} {v : Value} (h : Calls P f args (w.drewN (a + n)) (Quiet (w.drewN (a + n)) v)) :
    Calls P f args (w.drewN (a + n)) fun e w'' => e = .returned v ∧ ∃ m, w'' = w.drewN (a + m) :=
  h.mono fun _ _ ⟨he, m, hm⟩ => ⟨he, n + m, by rw [hm, World.drewN_drewN, Nat.add_assoc]⟩
theorem calls_v {P : Program} {f : FuncId} {args : Array Value} {w : World} {v v' : Value} (h : Calls P f args w (Quiet w v)) (hv : v = v') : Calls P f args w (Quiet w v') := by rw [← hv]; exact h
theorem gives_v {P : Program} {f : FuncId} {args : Array Value} {w : World} {v v' : Value} (h : Calls P f args w (Gives w v)) (hv : v = v') : Calls P f args w (Gives w v') := by rw [← hv]; exact h
theorem Quiet.gives {w w' : World} {v : Value} {e : Ending} (h : Quiet w v e w') : Gives w v e w' := ⟨h.1, h.2.below _⟩

/-! ### append of one new element to a slice of the call's own -/
theorem wpList_app1 {P : Program} {wr : World} {ops : Array Oper} {rest : List Oper} {o : Oper} {a : Act} {Q : Exit → Act → World → Prop} (hgd : o.guard = none) (s x : Operand) (t : TypeId)
    (ho : o.op = .call { callee := .builtin .append, args := #[s, x], argTypes := #[t, t] }) (T : TypeId) (z : Value) (bytes : Nat) (ht : P.underlying t = some (.slice T))
    (hinfo : (P.info? T).map (fun i => (i.zero, i.size, i.bytes)) = some (some z, 1, bytes)) (hz1 : z.cells.size = 1) (lo : Nat) (A : Option Addr) (c : Nat) (us : List Value)
    (hown : Own T lo wr.heap.size wr A c us) (hlo : lo ≤ wr.heap.size) (u : Value) (hu : u.oneCell' = true) (hlen : us.length ≤ 1048576) (hb : bytes ≤ 64)
    (n : Nat) (hn : n = us.length) (hs : a.eval s = .slice A n c) (hx : a.eval x = .slice (some ⟨wr.heap.size, 0, none⟩) 1 1)
    (h : ∀ A' c' w', Own T lo w'.heap.size w' A' c' (us ++ [u]) → Below lo wr w' → wr.grownBy w' (Value.slice A n c).ownBlock → wr.heap.size ≤ w'.heap.size → wpList P ops Q rest (a.put o.dst (.slice A' (n + 1) c')) w') :
    wpList P ops Q (o :: rest) a (wr.alloc (.cells #[u] T)) := by
  subst hn
  obtain ⟨i0, hi, hz0, hz2, hz3⟩ := info_parts hinfo
  refine wpList_append_own (wr.alloc (.cells #[u] T)) hgd s x t ho lo T i0 z 1 bytes ht hi hz0 hz2 hz3 hz1 (by decide) (.slice A us.length c) us.length us hs (hown.ownsRow.alloc _) ⟨wr.heap.size, 0, none⟩ 1 1 [u] hx rfl ?_ ?_ ?_ ?_ (by simp; omega) ?_
  · intro j v hj
    have : j = 0 := by have := lt_of hj; simpa using this
    subst this
    simp at hj; subst hj
    rw [addr_zero_add, cell_of_row _ _ 0 #[u] T (0, 0) (heap_alloc_new wr _)]; rfl
  · intro v hv
    simp at hv; subst hv; exact hu
  · unfold maxLen; omega
  · have : (us.length + 1) * bytes ≤ 1048577 * 64 := Nat.mul_le_mul (by omega) hb
    omega
  · intro v' w' hown' hgrow _
    obtain ⟨A', c', rfl, hl, ho'⟩ := Own.of_row hown'
    have hg : wr.grownBy w' (Value.slice A us.length c).ownBlock :=
      ⟨hgrow.os, hgrow.tape, hgrow.output, Nat.le_trans (by simp) hgrow.size, fun k hk hne => (hgrow.block k (by simp; omega) hne).trans (Below.heap_alloc wr _ k hk)⟩
    have := h A' c' w' ho' ((Below.refl _ _).grown hg hlo (fun k hk => (hown.ownsRow.lt k hk).1)) hg hg.size
    rwa [hl]

end Go.Proofs.Ytehlijpjcjegcaa
