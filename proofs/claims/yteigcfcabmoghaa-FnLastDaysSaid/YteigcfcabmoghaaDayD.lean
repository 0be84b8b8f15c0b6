/- Contracts: a drawn last day (reference's l02Order, l15Draw, MakeDay). -/
import Derived.Test.YteigcfcabmoghaaCur2
import Derived.Test.YteigcfcabmoghaaDayE
import Derived.Test.YteigcfcabmoghaaTail
import Derived.Test.YteigcfcabmoghaaApp2g
namespace Go.Proofs.Yteigcfcabmoghaa
set_option linter.unusedSimpArgs false
set_option linter.unusedVariables false
open Go.RowKit

/-! ### An order -/
theorem nodup_mid {l : List Int} {x : Nat} {k : Int} (h : l.Nodup) (hk : k ∉ l) : (l.take x ++ [k] ++ l.drop x).Nodup := by
  have hp : (l.take x ++ [k] ++ l.drop x).Perm (k :: (l.take x ++ l.drop x)) := by
    rw [List.append_assoc]; exact List.perm_middle
  rw [hp.nodup_iff, List.take_append_drop, List.nodup_cons]
  exact ⟨hk, h⟩
def AOrd (w : World) (g : Nat) (A : Option Addr) (m c n : Nat) (e : Ending) (w' : World) : Prop := ∃ (go oc : Nat) (l : List Int), e = .returned (.slice (some ⟨go, 0, none⟩) n oc) ∧ l.length = n ∧ l.Nodup ∧ (∀ x ∈ l, 0 ≤ x ∧ x < (n : Int)) ∧
  Own 3 w.heap.size w'.heap.size w' (some ⟨go, 0, none⟩) oc (l.map (.int .i64)) ∧ Cur w' g A m c ∧ Only g (g + 1) w w'
theorem cells_take {T : TypeId} {lo hi : Nat} {w : World} {A : Option Addr} {c : Nat} {l : List Int} (h : Own T lo hi w A c (l.map (.int .i64))) (x : Nat) : Cells w A ((l.take x).map (.int .i64)) := fun k u hk => by
  obtain ⟨v, hv, rfl⟩ := some_map hk
  rw [List.getElem?_take] at hv
  split at hv
  · exact h.cells k _ (map_some hv)
  · cases hv
theorem cells_drop {T : TypeId} {lo hi : Nat} {w : World} {g c : Nat} {l : List Int} (h : Own T lo hi w (some ⟨g, 0, none⟩) c (l.map (.int .i64))) (x : Nat) : Cells w (some ⟨g, x, none⟩) ((l.drop x).map (.int .i64)) := fun k u hk => by
  obtain ⟨v, hv, rfl⟩ := some_map hk
  rw [List.getElem?_drop] at hv
  obtain ⟨ad, e, hc⟩ := h.cells (x + k) _ (map_some hv)
  injection e with e
  subst e
  refine ⟨_, rfl, ?_⟩
  rw [addr_zero_add] at hc
  have e2 : (⟨g, x, none⟩ : Addr).add k = ⟨g, x + k, none⟩ := by unfold Addr.add; split <;> simp_all
  rw [e2]; exact hc
theorem own_at0' {T : TypeId} {lo hi : Nat} {w : World} {A : Option Addr} {c : Nat} {xs : List Int} (h : Own T lo hi w A c (xs.map (.int .i64))) (hl : 0 < xs.length) : ∃ g, A = some ⟨g, 0, none⟩ ∧ lo ≤ g ∧ g < hi := by
  obtain ⟨v, hv⟩ := some_of hl
  obtain ⟨g0, e, h1, h2, _⟩ := ownr h hv
  exact ⟨g0, e, h1, h2⟩
theorem cells_nil (w : World) (A : Option Addr) : Cells w A [] := fun k u h => by simp at h

set_option maxRecDepth 100000 in
set_option maxHeartbeats 4000000 in
theorem l02Order_c (g : Nat) (A : Option Addr) (m c n : Nat) (w0 w : World) (hc : Cur w g A m c) (hb : Byt w0 A m) (hA : ∀ a, A = some a → 0 < m → a.block < g) (hm : m ≤ 1048576) (hg : w0.heap.size ≤ g) (hgz : g < w.heap.size) (hd : Below w0.heap.size w0 w) (hn : n ≤ 100) :
    Calls Try.prog 65 #[.pointer (some ⟨g, 0, none⟩), .int .i64 (n : Int)] w (AOrd w g A m c n) := by
  have hba : Below w.heap.size w (w.alloc (.cells #[] 3)) := (Below.refl _ _).alloc (Nat.le_refl _) _
  have Hoe := Lib.hid (out_empty 3 w.heap.size w (Nat.le_refl _))
  have Hc0 := Lib.hid (hc.below (hba.mono hgz))
  have Hy0 := Lib.hid ((Only.refl g (g + 1) w).alloc (.cells #[] 3))
  have Hb := Lib.hid hb
  have HA := Lib.hid hA
  have Hd := Lib.hid hd
  clear hb hA hd
  clear hc hba
  go_enter Try.func65, Try.ntmps65
  go_wp2
  go_loopw [6, 5] (fun i o wr => ∃ (k go oc : Nat) (l : List Int), k ≤ n ∧ i = .int .i64 k ∧ o = .slice (some ⟨go, 0, none⟩) k oc ∧ l.length = k ∧ l.Nodup ∧ (∀ x ∈ l, 0 ≤ x ∧ x < (k : Int)) ∧ Own 3 w.heap.size wr.heap.size wr (some ⟨go, 0, none⟩) oc (l.map (.int .i64)) ∧ Cur wr g A m c ∧ Only g (g + 1) w wr) (fun i _ _ => n - (intOf i).toNat)
  case atStart => exact ⟨0, w.heap.size, 0, [], Nat.zero_le _, rfl, rfl, rfl, List.nodup_nil, fun x hx => by simp at hx, Hoe.out, Hc0.out, Hy0.out⟩
  case round =>
    clear Hoe Hc0 Hy0
    obtain ⟨k, go, oc, l, hk, rfl, rfl, hll, hnd, hlb, ho, hc, hy⟩ := hrel
    have hzr := hy.size
    have hkoc : k ≤ oc := by have := ho.1; rw [List.length_map, hll] at this; exact this
    have Hnd := Lib.hid hnd
    have Hlb := Lib.hid hlb
    have Ho := Lib.hid ho
    have Hc := Lib.hid hc
    have Hy := Lib.hid hy
    clear hnd hlb ho hc hy
    by_cases hlt : k < n
    · have hlti : (k : Int) < (n : Int) := by omega
      have wk : IntKind.i64.wrap ((k : Int) + 1) = (k : Int) + 1 := IntWalk.i64_in _ (by omega)
      have hby := l01Below_c g A m c ((k : Int) + 1) wr Hc.out (Hb.out.keep (keep_of_below (only_new Hy.out Hd.out hg))) HA.out hm (by omega) (by omega)
      have Hby := Lib.hid hby
      clear hby
      go_wp2_with fail
      refine Hby.out.mono ?_
      rintro e w2 ⟨x, rfl, hx0, hx1, hc2, ho2⟩
      obtain ⟨x, rfl⟩ := Int.eq_ofNat_of_zero_le hx0
      have hxk : x ≤ k := by omega
      have hz2 := ho2.size
      have Hy2 := Lib.hid (Hy.out.trans ho2)
      have Ho2 := Lib.hid ((Ho.out.only ho2 (Nat.le_refl _) (.inr (by omega))).wide (Nat.le_refl _) hz2)
      have hwz : w.heap.size ≤ w2.heap.size := by omega
      clear ho2 Hby Hy Ho hx0 hx1
      have Hc2 := Lib.hid hc2
      clear hc2
      have hbb : Below w2.heap.size w2 (w2.alloc (.cells #[] 3)) := (Below.refl _ _).alloc (Nat.le_refl _) _
      have Hs1 := Lib.hid (cells_take (Ho2.out.below hbb) x)
      have htl : (l.take x).length = x := by rw [List.length_take]; omega
      have hxi : (x : Int) ≤ (oc : Int) := by omega
      clear hbb
      have hknot : (k : Int) ∉ l := fun h => by have := Hlb.out _ h; omega
      by_cases hoc : oc = x
      · obtain rfl : x = k := by omega
        obtain rfl : x = oc := hoc.symm
        go_wp2_with (first | (at_builtin; refine wpList_appN rfl (.tmp 19) (.tmp 22) 22 rfl 3 (.int .i64 0) 8 Try.underlying22 info_int rfl w2.heap.size (some ⟨w2.heap.size, 0, none⟩) 0 [] ?_ ?_ (some ⟨go, 0, none⟩) x ((l.take x).map (.int .i64)) ?_ ?_ ?_ ?_ ?_ 0 x ?_ ?_ ?_ ?_ ?_; exact out_empty 3 w2.heap.size w2 (Nat.le_refl _); simp; exact Hs1.out; exact ints_oneCell .i64 _; decide; (rw [List.length_map, htl]; omega); decide; rfl; (rw [List.length_map, htl]); rfl; rfl; intro X cx w3 ho3 hb3 _ hz3; have ho3' : Hid (Own 3 w2.heap.size w3.heap.size w3 X cx ((l.take x).map (.int .i64))) := Lib.hid (by simpa using ho3); have hb3' := Lib.hid (((Below.refl w2.heap.size w2).alloc (Nat.le_refl _) (.cells #[] 3)).trans hb3); clear ho3 hb3) | (at_builtin; refine wpList_app1 rfl (.tmp 24) (.tmp 26) 22 rfl 3 (.int .i64 0) 8 Try.underlying22 info_int rfl w2.heap.size X cx ((l.take x).map (.int .i64)) ?_ ?_ (.int .i64 (x : Int)) rfl ?_ ?_ x ?_ ?_ ?_ ?_; exact ho3'.out; exact hb3'.out.size; (rw [List.length_map, htl]; omega); decide; (rw [List.length_map, htl]); rfl; rfl; intro X2 cx2 w4 ho4 hb4 _ hz4; have ho4' := Lib.hid ho4; have hb4' := Lib.hid (hb3'.out.trans hb4); clear ho4 hb4) | (at_builtin; refine wpList_appN rfl (.tmp 28) (.tmp 31) 22 rfl 3 (.int .i64 0) 8 Try.underlying22 info_int rfl w2.heap.size X2 cx2 ((l.take x).map (.int .i64) ++ [.int .i64 (x : Int)]) ?_ ?_ (some ⟨go, 0, none⟩) 0 [] ?_ ?_ ?_ ?_ ?_ (x + 1) 0 ?_ ?_ ?_ ?_ ?_; exact ho4'.out; exact hb4'.out.size; exact cells_nil _ _; (intro u hu; simp at hu); (simp <;> omega); (simp <;> omega); decide; (simp <;> omega); (simp [hll]); rfl; rfl; intro X3 cx3 w5 ho5 hb5 _ hz5; have ho5' := Lib.hid ho5; have hb5' := Lib.hid (hb4'.out.trans hb5); clear ho5 hb5))
        have Hb5 := Lib.hid (hb5'.out)
        have hz5' : w2.heap.size ≤ w5.heap.size := hb5'.out.size
        have hl5 : (l ++ [(x : Int)]).length = x + 1 := by simp [hll] <;> omega
        have Hn5 : Hid ((l ++ [(x : Int)]).Nodup) := Lib.hid (by have := nodup_mid (x := x) Hnd.out hknot; rw [List.take_of_length_le (by omega), List.drop_of_length_le (by omega), List.append_nil] at this; exact this)
        have Hlb5 : Hid (∀ v ∈ l ++ [(x : Int)], 0 ≤ v ∧ v < ((x + 1 : Nat) : Int)) := Lib.hid (fun v hv => by
          have : v ∈ l ∨ v = (x : Int) := by simpa using hv
          rcases this with h | h
          · have := Hlb.out v h; omega
          · omega)
        have ho6 : Own 3 w.heap.size w5.heap.size w5 X3 cx3 ((l ++ [(x : Int)]).map (.int .i64)) := by
          have := ho5'.out.wide hwz (Nat.le_refl _)
          rw [List.take_of_length_le (by omega : l.length ≤ x)] at this
          simpa using this
        obtain ⟨g5, rfl, _, _⟩ := own_at0' ho6 (by omega)
        have Hc5 := Lib.hid (Hc2.out.below (hb5'.out.mono (by omega)))
        have Hy5 := Lib.hid (Hy2.out.trans (only_of_below (lo := g) (hi := g + 1) hb5'.out (Nat.le_refl _)))
        have Ho6 := Lib.hid ho6
        clear ho6
        clear ho3' ho4' ho5' hb3' hb4' hb5'
        go_wp2
        go_roundw
        case rel => exact ⟨x + 1, g5, cx3, l ++ [(x : Int)], by omega, by go_num, by rfl, hl5, Hn5.out, Hlb5.out, Ho6.out, Hc5.out, Hy5.out⟩
        case measure => simp [intOf]; omega
      · go_wp2_with (first | (at_builtin; refine wpList_appN rfl (.tmp 19) (.tmp 22) 22 rfl 3 (.int .i64 0) 8 Try.underlying22 info_int rfl w2.heap.size (some ⟨w2.heap.size, 0, none⟩) 0 [] ?_ ?_ (some ⟨go, 0, none⟩) oc ((l.take x).map (.int .i64)) ?_ ?_ ?_ ?_ ?_ 0 x ?_ ?_ ?_ ?_ ?_; exact out_empty 3 w2.heap.size w2 (Nat.le_refl _); simp; exact Hs1.out; exact ints_oneCell .i64 _; decide; (rw [List.length_map, htl]; omega); decide; rfl; (rw [List.length_map, htl]); rfl; rfl; intro X cx w3 ho3 hb3 _ hz3; have ho3' : Hid (Own 3 w2.heap.size w3.heap.size w3 X cx ((l.take x).map (.int .i64))) := Lib.hid (by simpa using ho3); have hb3' := Lib.hid (((Below.refl w2.heap.size w2).alloc (Nat.le_refl _) (.cells #[] 3)).trans hb3); clear ho3 hb3) | (at_builtin; refine wpList_app1 rfl (.tmp 24) (.tmp 26) 22 rfl 3 (.int .i64 0) 8 Try.underlying22 info_int rfl w2.heap.size X cx ((l.take x).map (.int .i64)) ?_ ?_ (.int .i64 (k : Int)) rfl ?_ ?_ x ?_ ?_ ?_ ?_; exact ho3'.out; exact hb3'.out.size; (rw [List.length_map, htl]; omega); decide; (rw [List.length_map, htl]); rfl; rfl; intro X2 cx2 w4 ho4 hb4 _ hz4; have ho4' := Lib.hid ho4; have hb4' := Lib.hid (hb3'.out.trans hb4); clear ho4 hb4) | (at_builtin; refine wpList_appN rfl (.tmp 28) (.tmp 31) 22 rfl 3 (.int .i64 0) 8 Try.underlying22 info_int rfl w2.heap.size X2 cx2 ((l.take x).map (.int .i64) ++ [.int .i64 (k : Int)]) ?_ ?_ (some ⟨go, x, none⟩) (oc - x) ((l.drop x).map (.int .i64)) ?_ ?_ ?_ ?_ ?_ (x + 1) (k - x) ?_ ?_ ?_ ?_ ?_; exact ho4'.out; exact hb4'.out.size; exact cells_drop (Ho2.out.below hb4'.out) x; exact ints_oneCell .i64 _; (simp <;> omega); (simp <;> omega); decide; (simp <;> omega); (simp [hll]); rfl; rfl; intro X3 cx3 w5 ho5 hb5 _ hz5; have ho5' := Lib.hid ho5; have hb5' := Lib.hid (hb4'.out.trans hb5); clear ho5 hb5))
        have Hb5 := Lib.hid (hb5'.out)
        have hz5' : w2.heap.size ≤ w5.heap.size := hb5'.out.size
        have hl5 : (l.take x ++ [(k : Int)] ++ l.drop x).length = k + 1 := by simp [hll] <;> omega
        have Hn5 : Hid ((l.take x ++ [(k : Int)] ++ l.drop x).Nodup) := Lib.hid (nodup_mid Hnd.out hknot)
        have Hlb5 : Hid (∀ v ∈ l.take x ++ [(k : Int)] ++ l.drop x, 0 ≤ v ∧ v < ((k + 1 : Nat) : Int)) := Lib.hid (fun v hv => by
          have : v ∈ l ∨ v = (k : Int) := by 
              rw [List.mem_append, List.mem_append, List.mem_singleton] at hv
              rcases hv with (hv | hv) | hv
              · exact .inl (List.mem_of_mem_take hv)
              · exact .inr hv
              · exact .inl (List.mem_of_mem_drop hv)
          rcases this with h | h
          · have := Hlb.out v h; omega
          · omega)
        have ho6 : Own 3 w.heap.size w5.heap.size w5 X3 cx3 ((l.take x ++ [(k : Int)] ++ l.drop x).map (.int .i64)) := by
          have := ho5'.out.wide hwz (Nat.le_refl _)
          simpa using this
        obtain ⟨g5, rfl, _, _⟩ := own_at0' ho6 (by omega)
        have Hc5 := Lib.hid (Hc2.out.below (hb5'.out.mono (by omega)))
        have Hy5 := Lib.hid (Hy2.out.trans (only_of_below (lo := g) (hi := g + 1) hb5'.out (Nat.le_refl _)))
        have Ho6 := Lib.hid ho6
        clear ho6
        clear ho3' ho4' ho5' hb3' hb4' hb5'
        go_wp2
        go_roundw
        case rel => exact ⟨k + 1, g5, cx3, l.take x ++ [(k : Int)] ++ l.drop x, by omega, by go_num, by (congr 1; omega), hl5, Hn5.out, Hlb5.out, Ho6.out, Hc5.out, Hy5.out⟩
        case measure => simp [intOf]; omega
    · obtain rfl : k = n := by omega
      go_wp2
      go_ret
      exact ⟨go, oc, l, rfl, hll, Hnd.out, Hlb.out, Ho.out, Hc.out, Hy.out⟩
/-! ### Games out of an order -/
theorem day_pairs {n : Nat} : ∀ (L : List (List Int)) (seen : List Int), (∀ g ∈ L, ∃ x y : Int, g = [x, y] ∧ (0 ≤ x ∧ x < (n : Int)) ∧ (0 ≤ y ∧ y < (n : Int))) → (seen ++ L.flatten).Nodup → dayGames (n : Int) L seen = true
  | [], _, _, _ => rfl
  | g :: r, seen, h, hn => by
    obtain ⟨x, y, rfl, hx, hy⟩ := h g (by simp)
    rw [List.flatten_cons] at hn
    have hn1 := hn
    rw [List.nodup_append] at hn1
    have e : seen ++ ([x, y] ++ r.flatten) = (seen ++ [x]) ++ ([y] ++ r.flatten) := by simp
    have e2 : seen ++ ([x, y] ++ r.flatten) = ((seen ++ [x]) ++ [y]) ++ r.flatten := by simp
    have hn2 := hn
    rw [e, List.nodup_append] at hn2
    have hn3 := hn
    rw [e2] at hn3
    have h1 : x ∉ seen := fun hm => hn1.2.2 x hm x (by simp) rfl
    have h2 : y ∉ seen ++ [x] := fun hm => hn2.2.2 y hm y (by simp) rfl
    have ih := day_pairs r ((seen ++ [x]) ++ [y]) (fun g hg => h g (by simp [hg])) hn3
    rw [dayGames]
    simp only [addAll, List.all_cons, List.all_nil, Bool.and_true, Bool.and_eq_true, decide_eq_true_eq, Bool.not_eq_true', decide_eq_false_iff_not, inR]
    refine ⟨rfl, ⟨⟨?_, ?_⟩, ?_, ?_⟩, h1, h2, ih⟩ <;> omega
structure PairsOf (l : List Int) (i : Nat) (L : List (List Int)) : Prop where
  sub : L.flatten.Sublist (l.take i)
  pair : ∀ g ∈ L, ∃ x y : Int, g = [x, y] ∧ x ∈ l ∧ y ∈ l
theorem PairsOf.skip {l : List Int} {i : Nat} {L : List (List Int)} (h : PairsOf l i L) (hi : i + 1 < l.length) : PairsOf l (i + 2) L := by
  obtain ⟨u, hu⟩ := some_of (l := l) (k := i) (by omega)
  obtain ⟨v, hv⟩ := some_of (l := l) (k := i + 1) (by omega)
  refine ⟨?_, h.pair⟩
  rw [take_of hv, take_of hu]
  exact h.sub.trans ((List.sublist_append_left _ _).trans (List.sublist_append_left _ _))
theorem PairsOf.add {l : List Int} {i : Nat} {L : List (List Int)} (h : PairsOf l i L) {u v : Int} (hu : l[i]? = some u) (hv : l[i + 1]? = some v) : PairsOf l (i + 2) (L ++ [[u, v]]) := by
  refine ⟨?_, fun g hg => ?_⟩
  · rw [take_of hv, take_of hu, List.flatten_append, List.append_assoc]
    exact List.Sublist.append h.sub (by simp)
  · rcases List.mem_append.1 hg with hg | hg
    · exact h.pair g hg
    · rw [List.mem_singleton] at hg
      exact ⟨u, v, hg, List.mem_of_getElem? hu, List.mem_of_getElem? hv⟩
theorem day_done {n i : Nat} {pts l : List Int} {L : List (List Int)} (h2 : 2 ≤ n) (h8 : n ≤ 8) (hl : pts.length = n) (hw : ∀ x ∈ pts, 20 ≤ x ∧ x ≤ 27) (hnd : l.Nodup) (hb : ∀ x ∈ l, 0 ≤ x ∧ x < (n : Int)) (hf : L.length ≤ 3) (h : PairsOf l i L) : dayOk pts L = true := by
  have hd : dayGames (n : Int) L [] = true := day_pairs L [] (fun g hg => by
    obtain ⟨x, y, e, hx, hy⟩ := h.pair g hg
    exact ⟨x, y, e, hb x hx, hb y hy⟩) (by
    rw [List.nil_append]; exact (h.sub.trans (List.take_sublist _ _)).nodup hnd)
  simp only [dayOk, hl, hd, Bool.and_true, Bool.and_eq_true, decide_eq_true_eq, List.all_eq_true]
  refine ⟨?_, fun x hx => ?_, ?_⟩
  · simp only [inR, Bool.and_eq_true, decide_eq_true_eq]; omega
  · have := hw x hx
    simp only [inR, Bool.and_eq_true, decide_eq_true_eq]; omega
  · omega
/-- Some last day comes back. -/
def ADay (w0 : World) (e : Ending) (w' : World) : Prop := ∃ (A B : Option Addr) (c d : Nat) (pts : List Int) (games : List (List Int)),
  e = .returned (.tuple #[.slice A pts.length c, .slice B games.length d]) ∧ dayOk pts games = true ∧ Ints w' A pts ∧ Rows w' B games ∧ games.length ≤ d ∧ d ≤ maxLen ∧ Below w0.heap.size w0 w'
end Go.Proofs.Yteigcfcabmoghaa
