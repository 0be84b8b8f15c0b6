/- Shared words for memory: append of a new row where rows of another type stay (seats that lack XChanceI and XAfterS; the same names). -/
import Derived.Test.YteigcfcabmoghaaBase3
namespace Go.Proofs.Yteigcfcabmoghaa
open Go.RowKit

/-- What lies in a block of another type stays where a row grows. -/
theorem Own.apart {T TT : TypeId} {lo hi lo2 hi2 : Nat} {w w' : World} {A : Option Addr} {c : Nat} {us : List Value} {B : Option Addr} {d n : Nat} {vs : List Value} (h : Own T lo hi w A c us) (hg : w.grownBy w' (Value.slice B n d).ownBlock) (ho : Own TT lo2 hi2 w B d vs) (hT : T ≠ TT) (hhi : hi ≤ w.heap.size) : Own T lo hi w' A c us := by
  obtain ⟨e1, e2, e3⟩ := h
  refine ⟨e1, e2, ?_⟩
  rcases e3 with e3 | ⟨g, cs, f1, f2, f3, f4, f5⟩
  · exact .inl e3
  · refine .inr ⟨g, cs, f1, f2, f3, ?_, f5⟩
    rw [hg.block g (by omega) ?_]
    · exact f4
    · intro e
      obtain ⟨_, _, o3⟩ := ho
      rcases o3 with ⟨o, _⟩ | ⟨g', cs', o, _, _, o4, _⟩
      · subst o; simp [Value.ownBlock] at e
      · subst o
        simp only [Value.ownBlock, Option.some.injEq] at e
        subst e
        rw [f4] at o4
        injection o4 with o4
        injection o4 with _ o5
        exact hT o5
/-- append of one new row; what lies in blocks of another type stays. -/
theorem wpList_app2g {P : Program} {wr : World} {ops : Array Oper} {rest : List Oper} {o : Oper} {a : Act} {Q : Exit → Act → World → Prop} (hgd : o.guard = none) (s x : Operand) (t : TypeId)
    (ho : o.op = .call { callee := .builtin .append, args := #[s, x], argTypes := #[t, t] }) (T TT : TypeId) (ht : P.underlying t = some (.slice TT))
    (hinfo : (P.info? TT).map (fun i => (i.zero, i.size, i.bytes)) = some (some (.slice none 0 0), 1, 24)) (hT : T ≠ TT) (lo mid : Nat) (B : Option Addr) (d : Nat) (xss : List (List Int)) (b : Option Addr) (c' : Nat) (xs : List Int)
    (h2 : Own2 T TT lo mid wr B d xss) (hr : Own T mid wr.heap.size wr b c' (xs.map (.int .i64))) (hlo : lo ≤ mid) (hmid : mid ≤ wr.heap.size) (hlen : xss.length ≤ 1048576)
    (n m : Nat) (hn : n = xss.length) (hm : m = xs.length) (hs : a.eval s = .slice B n d) (hx : a.eval x = .slice (some ⟨wr.heap.size, 0, none⟩) 1 1)
    (h : ∀ A' c'' w', Own2 T TT lo w'.heap.size w' A' c'' (xss ++ [xs]) → Below lo wr w' → wr.heap.size ≤ w'.heap.size → (∀ (T' : TypeId) (lo2 hi2 : Nat) (A3 : Option Addr) (c3 : Nat) (us : List Value), T' ≠ TT → hi2 ≤ wr.heap.size → Own T' lo2 hi2 wr A3 c3 us → Own T' lo2 hi2 w' A3 c3 us) →
      wpList P ops Q rest (a.put o.dst (.slice A' (n + 1) c'')) w') :
    wpList P ops Q (o :: rest) a (wr.alloc (.cells #[.slice b m c'] TT)) := by
  obtain ⟨hh, hown, hin⟩ := h2
  subst hm
  refine wpList_app1 hgd s x t ho TT (.slice none 0 0) 24 ht hinfo rfl lo B d (List.zipWith hdr hh xss) (hown.wide (Nat.le_refl _) hmid) (by omega) (.slice b xs.length c') rfl (by rw [zip_length hin.len]; exact hlen) (by decide) n (by rw [zip_length hin.len]; exact hn) hs hx ?_
  intro A' c'' w' ho' hb' hg' hz'
  refine h A' c'' w' ⟨hh ++ [(b, c')], by rw [← zip_snoc hin.len]; exact ho', ?_⟩ hb' hz' (fun T' lo2 hi2 A3 c3 us h1 h2 h3 => h3.apart hg' hown h1 h2)
  have hI : Inner T lo wr.heap.size wr (hh ++ [(b, c')]) (xss ++ [xs]) := hin.snoc hr hlo hmid
  exact (hI.grown hg' (hown.wide (Nat.le_refl _) hmid) hT (Nat.le_refl _)).wide (Nat.le_refl _) hz'
theorem own_new2 (T : TypeId) (w : World) (x y : Value) : Own T w.heap.size (w.heap.size + 1) (w.alloc (.cells #[x, y] T)) (some ⟨w.heap.size, 0, none⟩) 2 [x, y] :=
  ⟨by simp, by unfold maxLen; omega, .inr ⟨w.heap.size, _, rfl, Nat.le_refl _, Nat.lt_succ_self _, heap_alloc_new w _, rfl, rfl⟩⟩

theorem step_app1 {P : Program} {ops : Array Oper} {o : Oper} {a : Act} {K : Act → World → Prop} {Q : Exit → Act → World → Prop} {E : Prop} (hgd : o.guard = none) (s x : Operand) (t : TypeId)
    (ho : o.op = .call { callee := .builtin .append, args := #[s, x], argTypes := #[t, t] }) (T : TypeId) (z : Value) (bytes : Nat) (ht : P.underlying t = some (.slice T))
    (hinfo : (P.info? T).map (fun i => (i.zero, i.size, i.bytes)) = some (some z, 1, bytes)) (hz1 : z.cells.size = 1) (wr : World) (lo : Nat) (A : Option Addr) (c : Nat) (us : List Value)
    (hown : Own T lo wr.heap.size wr A c us) (hlo : lo ≤ wr.heap.size) (u : Value) (hu : u.oneCell' = true) (hlen : us.length ≤ 1048576) (hb : bytes ≤ 64)
    (n : Nat) (hn : n = us.length) (hs : a.eval s = .slice A n c) (hx : a.eval x = .slice (some ⟨wr.heap.size, 0, none⟩) 1 1)
    (h : ∀ g' c' w', Own T lo w'.heap.size w' (some ⟨g', 0, none⟩) c' (us ++ [u]) → wr.grownBy w' (Value.slice A n c).ownBlock → (wr.alloc (.cells #[u] T)).grownBy w' (Value.slice A n c).ownBlock → ((Value.slice A n c).ownBlock = some g' ∨ wr.heap.size ≤ g') → K (a.put o.dst (.slice (some ⟨g', 0, none⟩) (n + 1) c')) w') :
    if Region.wanted o (yielded ops a.tmps) = true then Oper.wp P o a (wr.alloc (.cells #[u] T)) K Q else E := by
  subst hn
  obtain ⟨i0, hi, hz0, hz2, hz3⟩ := info_parts hinfo
  refine step_append_lies (wr.alloc (.cells #[u] T)) hgd s x t ho lo T i0 z 1 bytes ht hi hz0 hz2 hz3 hz1 (by decide) (.slice A us.length c) us.length us hs (hown.ownsRow.alloc _) ⟨wr.heap.size, 0, none⟩ 1 1 [u] hx rfl ?_ ?_ (by decide) ?_ ?_ (by simp; omega) (wr.heap.size + 1) (by simp) ?_
  · intro j v hj
    have : j = 0 := by have := lt_of hj; simpa using this
    subst this
    simp at hj; subst hj
    rw [addr_zero_add, cell_of_row _ _ 0 #[u] T (0, 0) (heap_alloc_new wr _)]; rfl
  · intro v hv
    simp at hv; subst hv; exact hu
  · unfold maxLen; omega
  · have : (us.length + 1) * bytes ≤ 1048577 * 64 := Nat.mul_le_mul (by omega) hb
    omega
  · intro g cap w' hown' hgrow hlies hgl
    obtain ⟨A', c', e', hl, ho'⟩ := Own.of_row hown'
    injection e' with e1 _ e2
    subst e1; subst e2
    have hg : wr.grownBy w' (Value.slice A us.length c).ownBlock :=
      ⟨hgrow.os, hgrow.tape, hgrow.output, Nat.le_trans (by simp) hgrow.size, fun k hk hne => (hgrow.block k (by simp; omega) hne).trans (Below.heap_alloc wr _ k hk)⟩
    exact h g cap w' ho' hg hgrow (hlies.imp id (fun e => by omega))

/-- append of one new row, as a step of a region that draws its order. -/
theorem step_app2g {P : Program} {ops : Array Oper} {o : Oper} {a : Act} {K : Act → World → Prop} {Q : Exit → Act → World → Prop} {E : Prop} (hgd : o.guard = none) (s x : Operand) (t : TypeId)
    (ho : o.op = .call { callee := .builtin .append, args := #[s, x], argTypes := #[t, t] }) (T TT : TypeId) (ht : P.underlying t = some (.slice TT))
    (hinfo : (P.info? TT).map (fun i => (i.zero, i.size, i.bytes)) = some (some (.slice none 0 0), 1, 24)) (hT : T ≠ TT) (wr : World) (lo mid : Nat) (B : Option Addr) (d : Nat) (xss : List (List Int)) (b : Option Addr) (c' : Nat) (xs : List Int)
    (h2 : Own2 T TT lo mid wr B d xss) (hr : Own T mid wr.heap.size wr b c' (xs.map (.int .i64))) (hlo : lo ≤ mid) (hmid : mid ≤ wr.heap.size) (hlen : xss.length ≤ 1048576)
    (n m : Nat) (hn : n = xss.length) (hm : m = xs.length) (hs : a.eval s = .slice B n d) (hx : a.eval x = .slice (some ⟨wr.heap.size, 0, none⟩) 1 1)
    (h : ∀ A' c'' w', Own2 T TT lo w'.heap.size w' (some ⟨A', 0, none⟩) c'' (xss ++ [xs]) → Below lo wr w' → wr.heap.size ≤ w'.heap.size → (∀ (T' : TypeId) (lo2 hi2 : Nat) (A3 : Option Addr) (c3 : Nat) (us : List Value), T' ≠ TT → hi2 ≤ wr.heap.size → Own T' lo2 hi2 wr A3 c3 us → Own T' lo2 hi2 w' A3 c3 us) →
      K (a.put o.dst (.slice (some ⟨A', 0, none⟩) (n + 1) c'')) w') :
    if Region.wanted o (yielded ops a.tmps) = true then Oper.wp P o a (wr.alloc (.cells #[.slice b m c'] TT)) K Q else E := by
  obtain ⟨hh, hown, hin⟩ := h2
  subst hm
  refine step_app1 hgd s x t ho TT (.slice none 0 0) 24 ht hinfo rfl wr lo B d (List.zipWith hdr hh xss) (hown.wide (Nat.le_refl _) hmid) (by omega) (.slice b xs.length c') rfl (by rw [zip_length hin.len]; exact hlen) (by decide) n (by rw [zip_length hin.len]; exact hn) hs hx ?_
  intro g' c'' w' ho' hg' _ _
  have hb' : Below lo wr w' := (Below.refl _ _).grown hg' (by omega) (fun k hk => ((hown.wide (Nat.le_refl _) hmid).ownsRow.lt k (by rw [hn, ← zip_length hin.len] at hk; exact hk)).1)
  refine h g' c'' w' ⟨hh ++ [(b, c')], by rw [← zip_snoc hin.len]; exact ho', ?_⟩ hb' hg'.size (fun T' lo2 hi2 A3 c3 us h1 h2 h3 => h3.apart hg' hown h1 h2)
  have hI : Inner T lo wr.heap.size wr (hh ++ [(b, c')]) (xss ++ [xs]) := hin.snoc hr hlo hmid
  exact (hI.grown hg' (hown.wide (Nat.le_refl _) hmid) hT (Nat.le_refl _)).wide (Nat.le_refl _) hg'.size
end Go.Proofs.Yteigcfcabmoghaa
