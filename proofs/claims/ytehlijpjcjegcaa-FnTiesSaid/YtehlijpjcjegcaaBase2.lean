/- Shared words for memory, more: append of a row to rows, append of a whole slice, two rows exchanged, rows put end to end. -/
import Derived.Test.YtehlijpjcjegcaaBase
namespace Go.Proofs.Ytehlijpjcjegcaa
open Go.RowKit

section
variable {T TT : TypeId} {lo hi mid : Nat} {w w' : World} {xss : List (List Int)} {hs : List (Option Addr × Nat)}
/-- The inner rows stay where another block, of another element type, is grown. -/
theorem Inner.grown {B : Option Addr} {d n : Nat} {us : List Value} (h : Inner T lo hi w hs xss) (hg : w.grownBy w' (Value.slice B n d).ownBlock) (ho : Own TT lo mid w B d us) (hT : T ≠ TT) (hhi : hi ≤ w.heap.size) : Inner T lo hi w' hs xss := by
  refine ⟨h.len, fun k x xs h1 h2 => ?_, h.apart⟩
  obtain ⟨e1, e2, e3⟩ := h.own k x xs h1 h2
  refine ⟨e1, e2, ?_⟩
  rcases e3 with e3 | ⟨g, cs, f1, f2, f3, f4, f5⟩
  · exact .inl e3
  · refine .inr ⟨g, cs, f1, f2, f3, ?_, f5⟩
    rw [hg.block g (by omega) ?_]
    · exact f4
    · intro e
      obtain ⟨_, _, o3⟩ := ho
      rcases o3 with ⟨o, _⟩ | ⟨g', cs', o, _, _, o4, _⟩
      · subst o; simp [Value.ownBlock] at e
      · subst o
        simp only [Value.ownBlock, Option.some.injEq] at e
        subst e
        rw [f4] at o4
        injection o4 with o4
        injection o4 with _ o5
        exact hT o5
end

/-! ### append of one new row -/
theorem zip_snoc {hs : List (Option Addr × Nat)} {xss : List (List Int)} (h : hs.length = xss.length) (a : Option Addr) (c : Nat) (xs : List Int) :
    List.zipWith hdr hs xss ++ [.slice a xs.length c] = List.zipWith hdr (hs ++ [(a, c)]) (xss ++ [xs]) := by
  rw [List.zipWith_append h]; rfl
theorem zip_length {hs : List (Option Addr × Nat)} {xss : List (List Int)} (h : hs.length = xss.length) : (List.zipWith hdr hs xss).length = xss.length := by simp [h]

theorem wpList_app2 {P : Program} {wr : World} {ops : Array Oper} {rest : List Oper} {o : Oper} {a : Act} {Q : Exit → Act → World → Prop} (hgd : o.guard = none) (s x : Operand) (t : TypeId)
    (ho : o.op = .call { callee := .builtin .append, args := #[s, x], argTypes := #[t, t] }) (T TT : TypeId) (ht : P.underlying t = some (.slice TT))
    (hinfo : (P.info? TT).map (fun i => (i.zero, i.size, i.bytes)) = some (some (.slice none 0 0), 1, 24)) (hT : T ≠ TT) (lo mid : Nat) (B : Option Addr) (d : Nat) (xss : List (List Int)) (b : Option Addr) (c' : Nat) (xs : List Int)
    (h2 : Own2 T TT lo mid wr B d xss) (hr : Own T mid wr.heap.size wr b c' (xs.map (.int .i64))) (hlo : lo ≤ mid) (hmid : mid ≤ wr.heap.size) (hlen : xss.length ≤ 1048576)
    (n m : Nat) (hn : n = xss.length) (hm : m = xs.length) (hs : a.eval s = .slice B n d) (hx : a.eval x = .slice (some ⟨wr.heap.size, 0, none⟩) 1 1)
    (h : ∀ A' c'' w', Own2 T TT lo w'.heap.size w' A' c'' (xss ++ [xs]) → Below lo wr w' → wr.heap.size ≤ w'.heap.size → wpList P ops Q rest (a.put o.dst (.slice A' (n + 1) c'')) w') :
    wpList P ops Q (o :: rest) a (wr.alloc (.cells #[.slice b m c'] TT)) := by
  obtain ⟨hh, hown, hin⟩ := h2
  subst hm
  refine wpList_app1 hgd s x t ho TT (.slice none 0 0) 24 ht hinfo rfl lo B d (List.zipWith hdr hh xss) (hown.wide (Nat.le_refl _) hmid) (by omega) (.slice b xs.length c') rfl (by rw [zip_length hin.len]; exact hlen) (by decide) n (by rw [zip_length hin.len]; exact hn) hs hx ?_
  intro A' c'' w' ho' hb' hg' hz'
  refine h A' c'' w' ⟨hh ++ [(b, c')], by rw [← zip_snoc hin.len]; exact ho', ?_⟩ hb' hz'
  have hI : Inner T lo wr.heap.size wr (hh ++ [(b, c')]) (xss ++ [xs]) := hin.snoc hr hlo hmid
  exact (hI.grown hg' (hown.wide (Nat.le_refl _) hmid) hT (Nat.le_refl _)).wide (Nat.le_refl _) hz'

/-! ### append of a whole slice -/
def Cells (w : World) (A : Option Addr) (us : List Value) : Prop := ∀ k u, us[k]? = some u → ∃ ad, A = some ad ∧ w.cell? (ad.add k) = some u
theorem Own.cells {T : TypeId} {lo hi : Nat} {w : World} {A : Option Addr} {c : Nat} {us : List Value} (h : Own T lo hi w A c us) : Cells w A us := fun k u hu => by
  obtain ⟨g, rfl, _, _, hc, _⟩ := h.at_ hu
  exact ⟨_, rfl, by rw [addr_zero_add]; exact hc⟩
theorem Ints.cells {w : World} {A : Option Addr} {xs : List Int} (h : Ints w A xs) : Cells w A (xs.map (.int .i64)) := fun k u hu => by
  obtain ⟨x, hx, rfl⟩ := some_map hu
  exact h k x hx
theorem run_append_nil' {P : Program} (w : World) (base : Nat) (t ty e : TypeId) (i : TypeInfo) (size : Nat) (ht : P.underlying t = some (.slice e)) (hi : P.info? e = some i)
    (v : Value) (n : Nat) (xs : List Value) (hown : w.ownsRow base e size v n xs) (c : Nat) : (Builtin.append_ #[t, t] ty #[v, .slice none 0 c]).run P w = .ok v w := by
  rcases hown.2 with ⟨rfl, rfl⟩ | ⟨g, cap, cur, rfl, _, _, hnc, _⟩
  · simp [Builtin.append_, run_underlying ht, sizeOf, typeInfo, hi, Builtin.lenOf, Builtin.firstCells]
  · simp [Builtin.append_, run_underlying ht, sizeOf, typeInfo, hi, Builtin.lenOf, Builtin.firstCells, hnc, storeCells]

theorem wpList_appN {P : Program} {wr : World} {ops : Array Oper} {rest : List Oper} {o : Oper} {a : Act} {Q : Exit → Act → World → Prop} (hgd : o.guard = none) (s x : Operand) (t : TypeId)
    (ho : o.op = .call { callee := .builtin .append, args := #[s, x], argTypes := #[t, t] }) (T : TypeId) (z : Value) (bytes : Nat) (ht : P.underlying t = some (.slice T))
    (hinfo : (P.info? T).map (fun i => (i.zero, i.size, i.bytes)) = some (some z, 1, bytes)) (hz1 : z.cells.size = 1) (lo : Nat) (A : Option Addr) (c : Nat) (us : List Value)
    (hown : Own T lo wr.heap.size wr A c us) (hlo : lo ≤ wr.heap.size) (B : Option Addr) (d : Nat) (vs : List Value) (hsrc : Cells wr B vs) (hu : ∀ u ∈ vs, u.oneCell' = true) (hlen : us.length ≤ 1048576) (hlen2 : vs.length ≤ 1048576) (hb : bytes ≤ 64)
    (n m : Nat) (hn : n = us.length) (hm : m = vs.length) (hs : a.eval s = .slice A n c) (hx : a.eval x = .slice B m d)
    (h : ∀ A' c' w', Own T lo w'.heap.size w' A' c' (us ++ vs) → Below lo wr w' → wr.grownBy w' (Value.slice A n c).ownBlock → wr.heap.size ≤ w'.heap.size → wpList P ops Q rest (a.put o.dst (.slice A' (n + m) c')) w') :
    wpList P ops Q (o :: rest) a wr := by
  subst hn; subst hm
  obtain ⟨i0, hi, hz0, hz2, hz3⟩ := info_parts hinfo
  cases B with
  | none =>
    have hv : vs = [] := by
      cases vs with
      | nil => rfl
      | cons v t => obtain ⟨ad, e, _⟩ := hsrc 0 v rfl; cases e
    subst hv
    have hr := run_append_nil' (P := P) wr lo t o.type T i0 1 ht hi _ _ _ hown.ownsRow d
    refine wpList_plain hgd fun K hK => ?_
    have h0 := h A c wr (by simpa using hown) (Below.refl _ _) (World.grownBy.refl _ _) (Nat.le_refl _)
    unfold Oper.wp execOp
    simp only [ho, resolve, invoke, builtin, Sem.run_bind, Sem.run_pure, Result.andThen_ok, List.map_toArray, List.map_cons, List.map_nil, hs, hx, List.length_nil, hr]
    exact hK _ _ (by simpa using h0)
  | some ad =>
    refine wpList_append_own wr hgd s x t ho lo T i0 z 1 bytes ht hi hz0 hz2 hz3 hz1 (by decide) (.slice A us.length c) us.length us hs hown.ownsRow ad vs.length d vs hx (by simp) ?_ hu ?_ ?_ hlo ?_
    · intro j v hj
      obtain ⟨ad', e, hc⟩ := hsrc j v hj
      injection e with e; subst e; exact hc
    · unfold maxLen; omega
    · have : (us.length + vs.length) * bytes ≤ 2097152 * 64 := Nat.mul_le_mul (by omega) hb
      omega
    · intro v' w' hown' hgrow _
      obtain ⟨A', c', rfl, hl, ho'⟩ := Own.of_row hown'
      have := h A' c' w' ho' ((Below.refl _ _).grown hgrow hlo (fun k hk => (hown.ownsRow.lt k hk).1)) hgrow hgrow.size
      rwa [hl]

/-! ### Rows put end to end -/
theorem Inner.append {T : TypeId} {lo mid hi : Nat} {w : World} {hs gs : List (Option Addr × Nat)} {xss yss : List (List Int)} (h : Inner T lo mid w hs xss) (k : Inner T mid hi w gs yss) (h1 : lo ≤ mid) (h2 : mid ≤ hi) :
    Inner T lo hi w (hs ++ gs) (xss ++ yss) := by
  have hge : ∀ (j : Nat) (x : Option Addr × Nat) (a : Addr), gs[j]? = some x → x.1 = some a → mid ≤ a.block := fun j x a hj ha => by
    obtain ⟨ys, hy⟩ := some_of (l := yss) (k := j) (by rw [← k.len]; exact lt_of hj)
    obtain ⟨_, _, h3⟩ := k.own j x ys hj hy
    rcases h3 with ⟨e, _⟩ | ⟨g, cs, e, h4, _⟩
    · rw [ha] at e; cases e
    · rw [ha] at e; injection e with e; subst e; exact h4
  refine ⟨by simp [h.len, k.len], fun i x ys hi' hx => ?_, fun i j x x' b b' hi' hj hb hb' hne => ?_⟩
  · rw [List.getElem?_append] at hi' hx
    by_cases hlt : i < hs.length
    · rw [if_pos hlt] at hi'
      rw [if_pos (by rw [← h.len]; exact hlt)] at hx
      exact (h.own i x ys hi' hx).wide (Nat.le_refl _) h2
    · rw [if_neg hlt] at hi'
      rw [if_neg (by rw [← h.len]; exact hlt), ← h.len] at hx
      exact (k.own _ x ys hi' hx).wide h1 (Nat.le_refl _)
  · rw [List.getElem?_append] at hi' hj
    by_cases hl1 : i < hs.length <;> by_cases hl2 : j < hs.length
    · rw [if_pos hl1] at hi'; rw [if_pos hl2] at hj
      exact h.apart i j x x' b b' hi' hj hb hb' hne
    · rw [if_pos hl1] at hi'; rw [if_neg hl2] at hj
      have h3 := h.lt hi' hb
      have h4 := hge _ _ _ hj hb'
      omega
    · rw [if_neg hl1] at hi'; rw [if_pos hl2] at hj
      have h3 := h.lt hj hb'
      have h4 := hge _ _ _ hi' hb
      omega
    · rw [if_neg hl1] at hi'; rw [if_neg hl2] at hj
      exact k.apart _ _ x x' b b' hi' hj hb hb' (by omega)

/-! ### Two elements exchanged -/
def swp {α : Type} (l : List α) (r s : Nat) : List α :=
  match l[r]?, l[s]? with
  | some x, some y => (l.set r y).set s x
  | _, _ => l
def sig (r s i : Nat) : Nat := if i = s then r else if i = r then s else i
theorem swp_at {α : Type} {l : List α} {r s : Nat} (hr : r < l.length) (hs : s < l.length) (i : Nat) : (swp l r s)[i]? = l[sig r s i]? := by
  obtain ⟨x, hx⟩ := some_of hr
  obtain ⟨y, hy⟩ := some_of hs
  unfold swp sig
  rw [hx, hy]
  simp only [List.getElem?_set, List.length_set]
  by_cases h1 : s = i
  · subst h1; rw [if_pos rfl, if_pos hs, if_pos rfl, hx]
  · rw [if_neg h1, if_neg (Ne.symm h1)]
    by_cases h2 : r = i
    · subst h2; rw [if_pos rfl, if_pos hr, if_pos rfl, hy]
    · rw [if_neg h2, if_neg (Ne.symm h2)]
theorem swp_length {α : Type} (l : List α) (r s : Nat) : (swp l r s).length = l.length := by
  unfold swp
  split <;> simp
theorem sig_inj {r s i j : Nat} (h : sig r s i = sig r s j) : i = j := by
  unfold sig at h
  repeat' split at h
  all_goals omega
theorem swp_zip {hs : List (Option Addr × Nat)} {xss : List (List Int)} {r s : Nat} (hl : hs.length = xss.length) (hr : r < xss.length) (h2 : s < xss.length) :
    List.zipWith hdr (swp hs r s) (swp xss r s) = swp (List.zipWith hdr hs xss) r s := by
  have hz := zip_length hl
  apply List.ext_getElem?
  intro i
  rw [swp_at (by omega) (by omega), List.getElem?_zipWith, List.getElem?_zipWith, swp_at (by omega) (by omega), swp_at hr h2]
theorem Inner.swap {T : TypeId} {lo hi : Nat} {w : World} {hs : List (Option Addr × Nat)} {xss : List (List Int)} {r s : Nat} (h : Inner T lo hi w hs xss) (hr : r < xss.length) (h2 : s < xss.length) :
    Inner T lo hi w (swp hs r s) (swp xss r s) := by
  have hl := h.len
  refine ⟨by rw [swp_length, swp_length, hl], fun k x xs h3 h4 => ?_, fun i j x x' a a' h3 h4 h5 h6 hne => ?_⟩
  · rw [swp_at (by omega) (by omega)] at h3
    rw [swp_at hr h2] at h4
    exact h.own _ x xs h3 h4
  · rw [swp_at (by omega) (by omega)] at h3 h4
    exact h.apart _ _ x x' a a' h3 h4 h5 h6 (fun e => hne (sig_inj e))
end Go.Proofs.Ytehlijpjcjegcaa
