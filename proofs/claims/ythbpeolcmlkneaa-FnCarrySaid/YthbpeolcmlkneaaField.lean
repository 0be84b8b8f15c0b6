/- Contracts: plans by fields (program and reference). -/
import Derived.Test.YthbpeolcmlkneaaXor
namespace Go.Proofs.Ythbpeolcmlkneaa
open Go.RowKit

/-! ### Rows picked by their numbers -/
def pick {α : Type} (l : List α) (d : α) (idx : List Nat) : List α := idx.map fun i => l.getD i d
theorem pick_zip {hs : List (Option Addr × Nat)} {xss : List (List Int)} {d : Option Addr × Nat} (hl : hs.length = xss.length) : ∀ idx : List Nat,
    List.zipWith hdr (pick hs d idx) (pick xss [] idx) = idx.map fun i => hdr (hs.getD i d) (xss.getD i [])
  | [] => rfl
  | i :: t => by simp only [pick, List.map_cons, List.zipWith_cons_cons]; congr 1; exact pick_zip hl t
theorem Inner.pick {T : TypeId} {lo hi : Nat} {w : World} {hs : List (Option Addr × Nat)} {xss : List (List Int)} {d : Option Addr × Nat} {idx : List Nat} (h : Inner T lo hi w hs xss)
    (hin : ∀ i ∈ idx, i < xss.length) (hnd : ∀ (a b : Nat) (i : Nat), idx[a]? = some i → idx[b]? = some i → a = b) : Inner T lo hi w (pick hs d idx) (pick xss [] idx) := by
  have hat : ∀ {k : Nat} {x : Option Addr × Nat}, (Proofs.Ythbpeolcmlkneaa.pick hs d idx)[k]? = some x → ∃ i, idx[k]? = some i ∧ hs[i]? = some x := fun {k x} hk => by
    obtain ⟨i, h1, h2⟩ := some_map hk
    refine ⟨i, h1, ?_⟩
    obtain ⟨y, hy⟩ := some_of (l := hs) (k := i) (by rw [h.len]; exact hin i (List.mem_of_getElem? h1))
    rw [← h2, getD_of hy]; exact hy
  refine ⟨by simp [Proofs.Ythbpeolcmlkneaa.pick], fun k x xs h1 h2 => ?_, fun a b x x' p p' h1 h2 h3 h4 hne => ?_⟩
  · obtain ⟨i, e1, e2⟩ := hat h1
    obtain ⟨j, e3, e4⟩ := some_map h2
    rw [e1] at e3
    injection e3 with e3
    subst e3
    obtain ⟨y, hy⟩ := some_of (l := xss) (k := i) (hin i (List.mem_of_getElem? e1))
    rw [getD_of hy] at e4
    subst e4
    exact h.own i x y e2 hy
  · obtain ⟨i, e1, e2⟩ := hat h1
    obtain ⟨j, e3, e4⟩ := hat h2
    exact h.apart i j x x' p p' e2 e4 h3 h4 (fun e => hne (hnd a b i e1 (by rw [e]; exact e3)))

def fieldIdx (n : Nat) : List Nat := if n = 2 then [0] else if n = 8 then [0, 1, 3, 2, 5, 6, 4] else [0, 1, 2]
def fieldPlan (n : Nat) : List (List Int) := pick (xorPlan n) [] (fieldIdx n)
def fieldOf (n : Int) : List (List Int) := if isXor n then fieldPlan n.toNat else []
theorem nd {α : Type} {l : List α} (h : l.Nodup) : ∀ (a b : Nat) (i : α), l[a]? = some i → l[b]? = some i → a = b := fun _ _ _ h1 h2 =>
  (List.getElem?_inj (lt_of h1) h).1 (h1.trans h2.symm)
theorem fieldIdx_nd {n : Nat} : (fieldIdx n).Nodup := by
  unfold fieldIdx
  split
  · decide
  · split <;> decide
theorem fieldIdx_lt {n : Nat} (hn : n = 2 ∨ n = 4 ∨ n = 8) : ∀ i ∈ fieldIdx n, i < n - 1 := by
  rcases hn with rfl | rfl | rfl <;> decide
theorem fieldIdx_length {n : Nat} (hn : n = 2 ∨ n = 4 ∨ n = 8) : (fieldIdx n).length = n - 1 := by
  rcases hn with rfl | rfl | rfl <;> decide
theorem fieldPlan_length {n : Nat} (hn : n = 2 ∨ n = 4 ∨ n = 8) : (fieldPlan n).length = n - 1 := by simp [fieldPlan, pick, fieldIdx_length hn]

/-- The next header is appended. -/
theorem wpList_app3 {P : Program} {wr : World} {ops : Array Oper} {rest : List Oper} {o : Oper} {a : Act} {Q : Exit → Act → World → Prop} (hgd : o.guard = none) (s x : Operand) (t : TypeId)
    (ho : o.op = .call { callee := .builtin .append, args := #[s, x], argTypes := #[t, t] }) (TT : TypeId) (ht : P.underlying t = some (.slice TT))
    (hinfo : (P.info? TT).map (fun i => (i.zero, i.size, i.bytes)) = some (some (.slice none 0 0), 1, 24)) (lo : Nat) (B : Option Addr) (d : Nat) (us : List Value) (b : Option Addr) (m c' : Nat)
    (h2 : Own TT lo wr.heap.size wr B d us) (hlo : lo ≤ wr.heap.size) (hlen : us.length ≤ 1048576)
    (n : Nat) (hn : n = us.length) (hs : a.eval s = .slice B n d) (hx : a.eval x = .slice (some ⟨wr.heap.size, 0, none⟩) 1 1)
    (h : ∀ A' c'' w', Own TT lo w'.heap.size w' A' c'' (us ++ [.slice b m c']) → Below lo wr w' → wr.heap.size ≤ w'.heap.size → wpList P ops Q rest (a.put o.dst (.slice A' (n + 1) c'')) w') :
    wpList P ops Q (o :: rest) a (wr.alloc (.cells #[.slice b m c'] TT)) :=
  wpList_app1 hgd s x t ho TT (.slice none 0 0) 24 ht hinfo rfl lo B d us h2 hlo (.slice b m c') rfl hlen (by decide) n hn hs hx (fun A' c'' w' h1 h2 _ h4 => h A' c'' w' h1 h2 h4)
theorem fieldIdx_at {n k : Nat} (hn : n = 2 ∨ n = 4 ∨ n = 8) (hk : k < n - 1) : ∃ p, (fieldIdx n)[k]? = some p ∧ p < n - 1 := by
  obtain ⟨p, hp⟩ := some_of (l := fieldIdx n) (k := k) (by rw [fieldIdx_length hn]; exact hk)
  exact ⟨p, hp, fieldIdx_lt hn p (List.mem_of_getElem? hp)⟩
/-- The list that the text writes out, one more than each number. -/
def listOk (n : Nat) (L : List Int) : Prop := ∀ (k p : Nat), (fieldIdx n)[k]? = some p → L[k]? = some ((p : Int) + 1)
theorem list3 {n : Nat} (hn : n = 2 ∨ n = 4) : listOk n [1, 2, 3] := by
  intro k p h
  rcases hn with rfl | rfl
  · have h1 : k < 1 := by simpa [fieldIdx] using lt_of h
    obtain rfl : k = 0 := by omega
    simp [fieldIdx] at h; subst h; rfl
  · have h1 : k < 3 := by simpa [fieldIdx] using lt_of h
    rcases (by omega : k = 0 ∨ k = 1 ∨ k = 2) with rfl | rfl | rfl <;> (simp [fieldIdx] at h; subst h; rfl)
theorem list1 : listOk 2 [1] := by
  intro k p h
  have h1 : k < 1 := by simpa [fieldIdx] using lt_of h
  obtain rfl : k = 0 := by omega
  simp [fieldIdx] at h; subst h; rfl
theorem list7 : listOk 8 [1, 2, 4, 3, 6, 7, 5] := by
  intro k p h
  have h1 : k < 7 := by simpa [fieldIdx] using lt_of h
  rcases (by omega : k = 0 ∨ k = 1 ∨ k = 2 ∨ k = 3 ∨ k = 4 ∨ k = 5 ∨ k = 6) with rfl | rfl | rfl | rfl | rfl | rfl | rfl <;> (simp [fieldIdx] at h; subst h; rfl)
theorem own_list (lo : Nat) (w : World) (xs : List Int) (hlo : lo ≤ w.heap.size) (hm : xs.length ≤ 1000) : Own 3 lo (w.heap.size + 1) (w.alloc (.cells (xs.map (Value.int .i64)).toArray 3)) (some ⟨w.heap.size, 0, none⟩) xs.length (xs.map (.int .i64)) :=
  ⟨by simp, by unfold maxLen; omega, .inr ⟨w.heap.size, _, rfl, hlo, Nat.lt_succ_self _, heap_alloc_new w _, by simp, by rw [List.length_map]; exact List.take_of_length_le (by simp)⟩⟩
/-- What stands at the end. -/
theorem field_done {lo mid : Nat} {wr : World} {hs : List (Option Addr × Nat)} {n : Nat} {B : Option Addr} {d : Nat} (hn : n = 2 ∨ n = 4 ∨ n = 8) (h : Inner 3 lo mid wr hs (xorPlan n))
    (ho : Own 38 lo wr.heap.size wr B d ((fieldIdx n).map fun i => hdr (hs.getD i (none, 0)) ((xorPlan n).getD i []))) (hm : mid ≤ wr.heap.size) : Own2 3 38 lo wr.heap.size wr B d (fieldPlan n) :=
  ⟨pick hs (none, 0) (fieldIdx n), by rw [fieldPlan, pick_zip h.len]; exact ho, (h.pick (fun i hi => by have := fieldIdx_lt hn i hi; simp [xorPlan]; omega) (nd fieldIdx_nd)).wide (Nat.le_refl _) hm⟩

set_option maxHeartbeats 4000000 in
theorem iFieldPlan_c (n : Int) (w : World) (hi : I64 n) :
    Calls Try.prog 35 #[.int .i64 n] w (GivesIIb 3 38 w (fieldOf n) (isXor n)) := by
  cases hp : isXor n
  · have hv : fieldOf n = [] := by rw [fieldOf, if_neg (by simp [hp])]
    have hx : xorOf n = [] := by rw [xorOf, if_neg (by simp [hp])]
    rw [hv]
    have Hp := Lib.hid hp
    have Hx := Lib.hid hx
    clear hp hx
    clear hv
    go_enter Try.func35, Try.ntmps35
    go_wp2_with fail
    refine (givesIIb_v (iXorPlan_c _ _ hi) Hx.out Hp.out).mono ?_
    rintro e w1 ⟨A1, c1, rfl, ho1, hb1⟩
    go_wp2
    go_ret2
    exact ⟨none, 0, rfl, Own2.nil .., hb1⟩
  · have hv : fieldOf n = fieldPlan n.toNat := by rw [fieldOf, if_pos hp]
    have hx : xorOf n = xorPlan n.toNat := by rw [xorOf, if_pos hp]
    rw [hv]
    obtain ⟨n, rfl⟩ := Int.eq_ofNat_of_zero_le (by simp only [isXor, Bool.or_eq_true, decide_eq_true_eq] at hp; omega : 0 ≤ n)
    have hn := isXor_cases hp
    rw [Int.toNat_natCast] at *
    obtain ⟨m, hm⟩ : ∃ m, n - 1 = m := ⟨_, rfl⟩
    have hm7 : m ≤ 7 := by omega
    have hcl : (xorPlan n).length = m := by simp [xorPlan]; omega
    have hfl : (fieldPlan n).length = m := by rw [fieldPlan_length hn]; exact hm
    have Hn := Lib.hid hn
    have Hp := Lib.hid hp
    have Hx := Lib.hid hx
    have Hcl := Lib.hid hcl
    have Hfl := Lib.hid hfl
    have Hm := Lib.hid hm
    clear hp hx hcl hfl hm
    clear hv
    rcases hn with hN | hN | hN
    · have hlk : listOk n [1] := by rw [hN]; exact list1
      have e2 : ((n : Int) == 2) = true := by rw [hN]; decide
      have Hlk := Lib.hid hlk
      clear hlk
      have hml : m ≤ 1 := by have := Hm.out; omega
      have hml2 : 1 ≤ m := by have := Hm.out; omega
      have HN := Lib.hid hN
      clear hN
      go_enter Try.func35, Try.ntmps35
      go_wp2_with fail
      refine (givesIIb_v (iXorPlan_c _ _ hi) Hx.out Hp.out).mono ?_
      rintro e w1 ⟨A1, c1, rfl, ⟨hs, ho1, hin1⟩, hb1⟩
      rw [Hcl.out]
      have z1 := hb1.size
      have hL0 := own_list 0 (w1.alloc (.cells (([1, 2, 3] : List Int).map (Value.int .i64)).toArray 3)) [1] (Nat.zero_le _) (by decide)
      have hWA : Below w1.heap.size w1 ((w1.alloc (.cells (([1, 2, 3] : List Int).map (Value.int .i64)).toArray 3)).alloc (.cells (([1] : List Int).map (Value.int .i64)).toArray 3)) := ((Below.refl _ _).alloc (Nat.le_refl _) _).alloc (by simp) _
      have hsA : ((w1.alloc (.cells (([1, 2, 3] : List Int).map (Value.int .i64)).toArray 3)).alloc (.cells (([1] : List Int).map (Value.int .i64)).toArray 3)).heap.size = w1.heap.size + 2 := by simp
      have hL1 := hL0.ints
      generalize hwA : ((w1.alloc (.cells (([1, 2, 3] : List Int).map (Value.int .i64)).toArray 3)).alloc (.cells (([1] : List Int).map (Value.int .i64)).toArray 3)) = wA at hWA hsA hL1
      have HwA := Lib.hid hwA
      have HsA := Lib.hid hsA
      have hsA1 : w1.heap.size ≤ wA.heap.size := by omega
      have HL := Lib.hid hL1
      have HWA := Lib.hid hWA
      have Ho1 := Lib.hid ho1
      have Hin1 := Lib.hid hin1
      have Hb1 := Lib.hid hb1
      clear ho1 hin1 hb1 hL0 hL1 hWA hwA hsA
      go_wp2
      go_loopw [7, 27] (fun v i wr => ∃ (k : Nat) (B : Option Addr) (d : Nat), k ≤ m ∧ i = .int .i64 k ∧ v = .slice B k d ∧ Own 38 wA.heap.size wr.heap.size wr B d (((fieldIdx n).take k).map fun i => hdr (hs.getD i (none, 0)) ((xorPlan n).getD i [])) ∧ Below wA.heap.size wA wr) (fun _ i _ => m - (intOf i).toNat)
      case atStart =>
        have h2 := HwA.out
        simp only [List.map_cons, List.map_nil] at h2
        rw [h2]
        exact ⟨0, none, 0, Nat.zero_le _, rfl, rfl, Own.nil .., Below.refl _ _⟩
      case round =>
        obtain ⟨k, B, d, hk, rfl, rfl, ho, hb⟩ := hrel
        have Ho := Lib.hid ho
        have Hb := Lib.hid hb
        clear ho hb
        by_cases hlt : k < m
        · obtain ⟨p, hp1, hp2⟩ := fieldIdx_at (k := k) Hn.out (by rw [Hm.out]; exact hlt)
          have hp3 : p < m := by have := Hm.out; omega
          obtain ⟨ad, had, hcl⟩ := HL.out.keep (keep_of_below Hb.out) k _ (Hlk.out k p hp1)
          obtain ⟨y, hy⟩ := some_of (l := xorPlan n) (k := p) (by rw [Hcl.out]; exact hp3)
          obtain ⟨u, hu⟩ := some_of (l := hs) (k := p) (by rw [Hin1.out.len, Hcl.out]; exact hp3)
          obtain ⟨g, rfl, hg1, hg2, hcg0, _⟩ := Ho1.out.at_ (zip_some hu hy)
          have hcg := keep_of_below Hb.out _ _ (keep_of_below HWA.out _ _ hcg0)
          obtain rfl : ad = ⟨w1.heap.size + 1, 0, none⟩ := by injection had with had; rw [← had]; simp
          rw [addr_zero_add] at hcl
          have hlen : (((fieldIdx n).take k).map fun i => hdr (hs.getD i (none, 0)) ((xorPlan n).getD i [])).length = k := by
            have := fieldIdx_length Hn.out
            have h3 := Hm.out
            rw [List.length_map, List.length_take]; omega
          have hstep : (((fieldIdx n).take (k + 1)).map fun i => hdr (hs.getD i (none, 0)) ((xorPlan n).getD i [])) = (((fieldIdx n).take k).map fun i => hdr (hs.getD i (none, 0)) ((xorPlan n).getD i [])) ++ [.slice u.1 y.length u.2] := by
            rw [take_of hp1, List.map_append, List.map_cons, List.map_nil, getD_of hu, getD_of hy]; rfl
          have hkl : k < 1 := by omega
          have Hlen := Lib.hid hlen
          have Hstep := Lib.hid hstep
          clear hlen hstep hp1 hp2 hy hu hcg0 had
          simp only [hdr] at hcg
          go_wp2_with (at_builtin; refine wpList_app3 rfl (.tmp 31) (.tmp 37) 22 rfl 38 Try.underlying22 info_ints wA.heap.size B d (((fieldIdx n).take k).map fun i => hdr (hs.getD i (none, 0)) ((xorPlan n).getD i [])) u.1 y.length u.2 ?_ ?_ ?_ k ?_ ?_ ?_ ?_; exact Ho.out; exact Hb.out.size; (rw [Hlen.out]; omega); exact Hlen.out.symm; rfl; rfl; intro B' d' w' ho' hb' hz'; have Ho' := Lib.hid ho'; have Hb' := Lib.hid hb'; clear ho' hb')
          go_wp2
          go_roundw
          case rel => exact ⟨k + 1, B', d', by omega, by go_num, rfl, by rw [Hstep.out]; exact Ho'.out, Hb.out.trans Hb'.out⟩
          case measure => simp [intOf]; omega
        · obtain rfl : k = m := by omega
          go_wp2
          go_ret2
          have hO := Ho.out
          rw [List.take_of_length_le (by rw [fieldIdx_length Hn.out, Hm.out]; exact Nat.le_refl _)] at hO
          have hbA : Below w1.heap.size w1 wr := HWA.out.trans (Hb.out.mono hsA1)
          have z2 := hbA.size
          refine ⟨B, d, by rw [Hfl.out]; rfl, (field_done Hn.out (Inner.below Hin1.out hbA) (hO.wide (by omega) (Nat.le_refl _)) z2), Hb1.out.trans (hbA.mono z1)⟩
    · have hlk : listOk n [1, 2, 3] := by rw [hN]; exact (list3 (.inr rfl))
      have e2 : ((n : Int) == 2) = false := by rw [hN]; decide
      have e8 : ((n : Int) == 8) = false := by rw [hN]; decide
      have Hlk := Lib.hid hlk
      clear hlk
      have hml : m ≤ 3 := by have := Hm.out; omega
      have hml2 : 3 ≤ m := by have := Hm.out; omega
      have HN := Lib.hid hN
      clear hN
      go_enter Try.func35, Try.ntmps35
      go_wp2_with fail
      refine (givesIIb_v (iXorPlan_c _ _ hi) Hx.out Hp.out).mono ?_
      rintro e w1 ⟨A1, c1, rfl, ⟨hs, ho1, hin1⟩, hb1⟩
      rw [Hcl.out]
      have z1 := hb1.size
      have hL0 := own_list 0 w1 [1, 2, 3] (Nat.zero_le _) (by decide)
      have hWA : Below w1.heap.size w1 (w1.alloc (.cells (([1, 2, 3] : List Int).map (Value.int .i64)).toArray 3)) := (Below.refl _ _).alloc (Nat.le_refl _) _
      have hsA : (w1.alloc (.cells (([1, 2, 3] : List Int).map (Value.int .i64)).toArray 3)).heap.size = w1.heap.size + 1 := by simp
      have hL1 := hL0.ints
      generalize hwA : (w1.alloc (.cells (([1, 2, 3] : List Int).map (Value.int .i64)).toArray 3)) = wA at hWA hsA hL1
      have HwA := Lib.hid hwA
      have HsA := Lib.hid hsA
      have hsA1 : w1.heap.size ≤ wA.heap.size := by omega
      have HL := Lib.hid hL1
      have HWA := Lib.hid hWA
      have Ho1 := Lib.hid ho1
      have Hin1 := Lib.hid hin1
      have Hb1 := Lib.hid hb1
      clear ho1 hin1 hb1 hL0 hL1 hWA hwA hsA
      go_wp2
      go_loopw [7, 27] (fun v i wr => ∃ (k : Nat) (B : Option Addr) (d : Nat), k ≤ m ∧ i = .int .i64 k ∧ v = .slice B k d ∧ Own 38 wA.heap.size wr.heap.size wr B d (((fieldIdx n).take k).map fun i => hdr (hs.getD i (none, 0)) ((xorPlan n).getD i [])) ∧ Below wA.heap.size wA wr) (fun _ i _ => m - (intOf i).toNat)
      case atStart =>
        have h2 := HwA.out
        simp only [List.map_cons, List.map_nil] at h2
        rw [h2]
        exact ⟨0, none, 0, Nat.zero_le _, rfl, rfl, Own.nil .., Below.refl _ _⟩
      case round =>
        obtain ⟨k, B, d, hk, rfl, rfl, ho, hb⟩ := hrel
        have Ho := Lib.hid ho
        have Hb := Lib.hid hb
        clear ho hb
        by_cases hlt : k < m
        · obtain ⟨p, hp1, hp2⟩ := fieldIdx_at (k := k) Hn.out (by rw [Hm.out]; exact hlt)
          have hp3 : p < m := by have := Hm.out; omega
          obtain ⟨ad, had, hcl⟩ := HL.out.keep (keep_of_below Hb.out) k _ (Hlk.out k p hp1)
          obtain ⟨y, hy⟩ := some_of (l := xorPlan n) (k := p) (by rw [Hcl.out]; exact hp3)
          obtain ⟨u, hu⟩ := some_of (l := hs) (k := p) (by rw [Hin1.out.len, Hcl.out]; exact hp3)
          obtain ⟨g, rfl, hg1, hg2, hcg0, _⟩ := Ho1.out.at_ (zip_some hu hy)
          have hcg := keep_of_below Hb.out _ _ (keep_of_below HWA.out _ _ hcg0)
          obtain rfl : ad = ⟨w1.heap.size, 0, none⟩ := by injection had with had; rw [← had]
          rw [addr_zero_add] at hcl
          have hlen : (((fieldIdx n).take k).map fun i => hdr (hs.getD i (none, 0)) ((xorPlan n).getD i [])).length = k := by
            have := fieldIdx_length Hn.out
            have h3 := Hm.out
            rw [List.length_map, List.length_take]; omega
          have hstep : (((fieldIdx n).take (k + 1)).map fun i => hdr (hs.getD i (none, 0)) ((xorPlan n).getD i [])) = (((fieldIdx n).take k).map fun i => hdr (hs.getD i (none, 0)) ((xorPlan n).getD i [])) ++ [.slice u.1 y.length u.2] := by
            rw [take_of hp1, List.map_append, List.map_cons, List.map_nil, getD_of hu, getD_of hy]; rfl
          have hkl : k < 3 := by omega
          have Hlen := Lib.hid hlen
          have Hstep := Lib.hid hstep
          clear hlen hstep hp1 hp2 hy hu hcg0 had
          simp only [hdr] at hcg
          go_wp2_with (at_builtin; refine wpList_app3 rfl (.tmp 31) (.tmp 37) 22 rfl 38 Try.underlying22 info_ints wA.heap.size B d (((fieldIdx n).take k).map fun i => hdr (hs.getD i (none, 0)) ((xorPlan n).getD i [])) u.1 y.length u.2 ?_ ?_ ?_ k ?_ ?_ ?_ ?_; exact Ho.out; exact Hb.out.size; (rw [Hlen.out]; omega); exact Hlen.out.symm; rfl; rfl; intro B' d' w' ho' hb' hz'; have Ho' := Lib.hid ho'; have Hb' := Lib.hid hb'; clear ho' hb')
          go_wp2
          go_roundw
          case rel => exact ⟨k + 1, B', d', by omega, by go_num, rfl, by rw [Hstep.out]; exact Ho'.out, Hb.out.trans Hb'.out⟩
          case measure => simp [intOf]; omega
        · obtain rfl : k = m := by omega
          go_wp2
          go_ret2
          have hO := Ho.out
          rw [List.take_of_length_le (by rw [fieldIdx_length Hn.out, Hm.out]; exact Nat.le_refl _)] at hO
          have hbA : Below w1.heap.size w1 wr := HWA.out.trans (Hb.out.mono hsA1)
          have z2 := hbA.size
          refine ⟨B, d, by rw [Hfl.out]; rfl, (field_done Hn.out (Inner.below Hin1.out hbA) (hO.wide (by omega) (Nat.le_refl _)) z2), Hb1.out.trans (hbA.mono z1)⟩
    · have hlk : listOk n [1, 2, 4, 3, 6, 7, 5] := by rw [hN]; exact list7
      have e2 : ((n : Int) == 2) = false := by rw [hN]; decide
      have e8 : ((n : Int) == 8) = true := by rw [hN]; decide
      have Hlk := Lib.hid hlk
      clear hlk
      have hml : m ≤ 7 := by have := Hm.out; omega
      have hml2 : 7 ≤ m := by have := Hm.out; omega
      have HN := Lib.hid hN
      clear hN
      go_enter Try.func35, Try.ntmps35
      go_wp2_with fail
      refine (givesIIb_v (iXorPlan_c _ _ hi) Hx.out Hp.out).mono ?_
      rintro e w1 ⟨A1, c1, rfl, ⟨hs, ho1, hin1⟩, hb1⟩
      rw [Hcl.out]
      have z1 := hb1.size
      have hL0 := own_list 0 (w1.alloc (.cells (([1, 2, 3] : List Int).map (Value.int .i64)).toArray 3)) [1, 2, 4, 3, 6, 7, 5] (Nat.zero_le _) (by decide)
      have hWA : Below w1.heap.size w1 ((w1.alloc (.cells (([1, 2, 3] : List Int).map (Value.int .i64)).toArray 3)).alloc (.cells (([1, 2, 4, 3, 6, 7, 5] : List Int).map (Value.int .i64)).toArray 3)) := ((Below.refl _ _).alloc (Nat.le_refl _) _).alloc (by simp) _
      have hsA : ((w1.alloc (.cells (([1, 2, 3] : List Int).map (Value.int .i64)).toArray 3)).alloc (.cells (([1, 2, 4, 3, 6, 7, 5] : List Int).map (Value.int .i64)).toArray 3)).heap.size = w1.heap.size + 2 := by simp
      have hL1 := hL0.ints
      generalize hwA : ((w1.alloc (.cells (([1, 2, 3] : List Int).map (Value.int .i64)).toArray 3)).alloc (.cells (([1, 2, 4, 3, 6, 7, 5] : List Int).map (Value.int .i64)).toArray 3)) = wA at hWA hsA hL1
      have HwA := Lib.hid hwA
      have HsA := Lib.hid hsA
      have hsA1 : w1.heap.size ≤ wA.heap.size := by omega
      have HL := Lib.hid hL1
      have HWA := Lib.hid hWA
      have Ho1 := Lib.hid ho1
      have Hin1 := Lib.hid hin1
      have Hb1 := Lib.hid hb1
      clear ho1 hin1 hb1 hL0 hL1 hWA hwA hsA
      go_wp2
      go_loopw [7, 27] (fun v i wr => ∃ (k : Nat) (B : Option Addr) (d : Nat), k ≤ m ∧ i = .int .i64 k ∧ v = .slice B k d ∧ Own 38 wA.heap.size wr.heap.size wr B d (((fieldIdx n).take k).map fun i => hdr (hs.getD i (none, 0)) ((xorPlan n).getD i [])) ∧ Below wA.heap.size wA wr) (fun _ i _ => m - (intOf i).toNat)
      case atStart =>
        have h2 := HwA.out
        simp only [List.map_cons, List.map_nil] at h2
        rw [h2]
        exact ⟨0, none, 0, Nat.zero_le _, rfl, rfl, Own.nil .., Below.refl _ _⟩
      case round =>
        obtain ⟨k, B, d, hk, rfl, rfl, ho, hb⟩ := hrel
        have Ho := Lib.hid ho
        have Hb := Lib.hid hb
        clear ho hb
        by_cases hlt : k < m
        · obtain ⟨p, hp1, hp2⟩ := fieldIdx_at (k := k) Hn.out (by rw [Hm.out]; exact hlt)
          have hp3 : p < m := by have := Hm.out; omega
          obtain ⟨ad, had, hcl⟩ := HL.out.keep (keep_of_below Hb.out) k _ (Hlk.out k p hp1)
          obtain ⟨y, hy⟩ := some_of (l := xorPlan n) (k := p) (by rw [Hcl.out]; exact hp3)
          obtain ⟨u, hu⟩ := some_of (l := hs) (k := p) (by rw [Hin1.out.len, Hcl.out]; exact hp3)
          obtain ⟨g, rfl, hg1, hg2, hcg0, _⟩ := Ho1.out.at_ (zip_some hu hy)
          have hcg := keep_of_below Hb.out _ _ (keep_of_below HWA.out _ _ hcg0)
          obtain rfl : ad = ⟨w1.heap.size + 1, 0, none⟩ := by injection had with had; rw [← had]; simp
          rw [addr_zero_add] at hcl
          have hlen : (((fieldIdx n).take k).map fun i => hdr (hs.getD i (none, 0)) ((xorPlan n).getD i [])).length = k := by
            have := fieldIdx_length Hn.out
            have h3 := Hm.out
            rw [List.length_map, List.length_take]; omega
          have hstep : (((fieldIdx n).take (k + 1)).map fun i => hdr (hs.getD i (none, 0)) ((xorPlan n).getD i [])) = (((fieldIdx n).take k).map fun i => hdr (hs.getD i (none, 0)) ((xorPlan n).getD i [])) ++ [.slice u.1 y.length u.2] := by
            rw [take_of hp1, List.map_append, List.map_cons, List.map_nil, getD_of hu, getD_of hy]; rfl
          have hkl : k < 7 := by omega
          have Hlen := Lib.hid hlen
          have Hstep := Lib.hid hstep
          clear hlen hstep hp1 hp2 hy hu hcg0 had
          simp only [hdr] at hcg
          go_wp2_with (at_builtin; refine wpList_app3 rfl (.tmp 31) (.tmp 37) 22 rfl 38 Try.underlying22 info_ints wA.heap.size B d (((fieldIdx n).take k).map fun i => hdr (hs.getD i (none, 0)) ((xorPlan n).getD i [])) u.1 y.length u.2 ?_ ?_ ?_ k ?_ ?_ ?_ ?_; exact Ho.out; exact Hb.out.size; (rw [Hlen.out]; omega); exact Hlen.out.symm; rfl; rfl; intro B' d' w' ho' hb' hz'; have Ho' := Lib.hid ho'; have Hb' := Lib.hid hb'; clear ho' hb')
          go_wp2
          go_roundw
          case rel => exact ⟨k + 1, B', d', by omega, by go_num, rfl, by rw [Hstep.out]; exact Ho'.out, Hb.out.trans Hb'.out⟩
          case measure => simp [intOf]; omega
        · obtain rfl : k = m := by omega
          go_wp2
          go_ret2
          have hO := Ho.out
          rw [List.take_of_length_le (by rw [fieldIdx_length Hn.out, Hm.out]; exact Nat.le_refl _)] at hO
          have hbA : Below w1.heap.size w1 wr := HWA.out.trans (Hb.out.mono hsA1)
          have z2 := hbA.size
          refine ⟨B, d, by rw [Hfl.out]; rfl, (field_done Hn.out (Inner.below Hin1.out hbA) (hO.wide (by omega) (Nat.le_refl _)) z2), Hb1.out.trans (hbA.mono z1)⟩
end Go.Proofs.Ythbpeolcmlkneaa
