/- Contracts: slices.DeleteFunc over a row of the call's own; the table of a set's clubs (HeadTable, program and reference). -/
import Derived.Test.YtehlijpjcjegcaaTabI
import Derived.Lib.SliceRun
import Derived.Laws.IdiomCopy
namespace Go.Proofs.Ytehlijpjcjegcaa
set_option linter.unusedSimpArgs false
set_option linter.unusedVariables false
open Go.RowKit

def idxM {α : Type} (p : α → Bool) : Nat → List α → Int
  | _, [] => -1
  | k, x :: r => if p x = true then (k : Int) else idxM p (k + 1) r
theorem idxM_none {α : Type} (p : α → Bool) : ∀ (xs : List α) (k : Nat), idxM p k xs = -1 → ∀ x ∈ xs, p x = false
  | [], _, _, x, hx => by simp at hx
  | y :: r, k, h, x, hx => by
    rw [idxM] at h
    by_cases hp : p y = true
    · rw [if_pos hp] at h; omega
    · rw [if_neg hp] at h
      rcases List.mem_cons.1 hx with rfl | hx
      · simpa using hp
      · exact idxM_none p r (k + 1) h x hx
theorem idxM_some {α : Type} (p : α → Bool) : ∀ (xs : List α) (k : Nat), idxM p k xs = -1 ∨ ∃ j : Nat, idxM p k xs = ((k + j : Nat) : Int) ∧ j < xs.length ∧ (∀ x ∈ xs.take j, p x = false) ∧ ∃ x, xs[j]? = some x ∧ p x = true
  | [], _ => .inl rfl
  | y :: r, k => by
    rw [idxM]
    by_cases hp : p y = true
    · rw [if_pos hp]; exact .inr ⟨0, by simp, by simp, by simp, y, rfl, hp⟩
    · rw [if_neg hp]
      rcases idxM_some p r (k + 1) with h | ⟨j, h1, h2, h3, x, h4, h5⟩
      · exact .inl h
      · refine .inr ⟨j + 1, by rw [h1]; congr 1; omega, by simp; omega, fun z hz => ?_, x, by simpa using h4, h5⟩
        rw [List.take_succ_cons] at hz
        rcases List.mem_cons.1 hz with rfl | hz
        · simpa using hp
        · exact h3 z hz

/-- A test of the members of a row, by a function that reads one cell that it holds. -/
def PredM (cl : Nat) (lb : Array Value) (p : Int → Bool) (cp : Addr) (v0 : Value) (xs : List Int) : Prop :=
  ∀ (W : World) (x : Int), x ∈ xs → W.cell? cp = some v0 → Calls Try.prog cl (#[.int .i64 x] ++ lb) W (Quiet W (.bool (p x)))

set_option maxHeartbeats 400000 in
theorem indexM_c (cl : Nat) (lb : Array Value) (p : Int → Bool) (cp : Addr) (v0 : Value) (A : Option Addr) (c : Nat) (xs : List Int) (w : World) (eg : ∀ args w, (callFunc cl args).run Try.prog w = .ok (.enter cl args) w)
    (hp : PredM cl lb p cp v0 xs) (hc : w.cell? cp = some v0) (ha : Ints w A xs) (hm : xs.length ≤ 1048576) :
    Calls Try.prog 87 #[.slice A xs.length c, .func (.func cl) #[] lb] w (Quiet w (.int .i64 (idxM p 0 xs))) := by
  generalize hR : idxM p 0 xs = R
  have HR := Lib.hid hR
  clear hR
  have Ha := Lib.hid ha
  have Hp := Lib.hid hp
  have Hc := Lib.hid hc
  clear ha hp hc
  go_enter Try.func87, Try.ntmps87
  go_wp2
  go_loopw [5, 8] (fun _ i wr => ∃ k : Nat, k ≤ xs.length ∧ i = .int .i64 k ∧ idxM p k (xs.drop k) = R ∧ Dr w wr) (fun _ i _ => xs.length - (intOf i).toNat)
  case atStart => exact ⟨0, Nat.zero_le _, rfl, HR.out, Dr.refl _⟩
  case round =>
    obtain ⟨k, hk, rfl, hS, hd⟩ := hrel
    have HS := Lib.hid hS
    have Hd := Lib.hid hd
    clear hS hd
    by_cases hlt : k < xs.length
    · obtain ⟨v, hv⟩ := some_of hlt
      obtain ⟨ad, rfl, hca⟩ := Ha.out.keep Hd.out.keep k v hv
      have hcall := Hp.out wr v (List.mem_of_getElem? hv) (Hd.out.keep _ _ Hc.out)
      cases hpv : p v
      · have HS2 : Hid (idxM p (k + 1) (xs.drop (k + 1)) = R) := Lib.hid (by have := HS.out; rw [drop_of hv, idxM, hpv] at this; exact this)
        rw [hpv] at hcall
        have Hv := Lib.hid hv
        have Hpv := Lib.hid hpv
        clear hv hpv
        go_wp2_with fail
        refine hcall.mono ?_
        rintro e w1 ⟨rfl, q, rfl⟩
        go_wp2
        go_roundw
        case rel => exact ⟨k + 1, by omega, by go_num, HS2.out, Hd.out.dN _⟩
        case measure => simp [intOf]; omega
      · have HS2 : Hid ((k : Int) = R) := Lib.hid (by have := HS.out; rw [drop_of hv, idxM, hpv] at this; exact this)
        rw [hpv] at hcall
        have Hv := Lib.hid hv
        have Hpv := Lib.hid hpv
        clear hv hpv
        go_wp2_with fail
        refine hcall.mono ?_
        rintro e w1 ⟨rfl, q, rfl⟩
        go_wp2
        go_ret
        exact ⟨ret_int HS2.out, Hd.out.dN _⟩
    · obtain rfl : k = xs.length := by omega
      go_wp2
      go_ret
      exact ⟨ret_int (by have := HS.out; rwa [List.drop_length, idxM] at this), Hd.out⟩

theorem Own.cut {T : TypeId} {lo hi : Nat} {w : World} {A : Option Addr} {c : Nat} {us : List Value} (h : Own T lo hi w A c us) (k : Nat) (hne : us ≠ [] ) : Own T lo hi w A c (us.take k) := by
  obtain ⟨hl, hm, h3⟩ := h
  refine ⟨by rw [List.length_take]; omega, hm, ?_⟩
  rcases h3 with ⟨_, e, _⟩ | ⟨g, cs, e, a1, a2, a3, a4, a5⟩
  · exact absurd e hne
  · refine .inr ⟨g, cs, e, a1, a2, a3, a4, ?_⟩
    have h5 : min k us.length ≤ us.length := Nat.min_le_right _ _
    rw [List.length_take]
    have h6 := congrArg (List.take k) a5
    rw [List.take_take] at h6
    exact h6
theorem Own.cells_ {T : TypeId} {lo hi g c : Nat} : ∀ (vs : List Value) (o : Nat) (w : World) (us : List Value), Own T lo hi w (some ⟨g, 0, none⟩) c us → ∃ us', us'.length = us.length ∧ us'.take o = us.take o ∧ Own T lo hi (w.setCells g o vs) (some ⟨g, 0, none⟩) c us'
  | [], o, w, us, h => ⟨us, rfl, rfl, h⟩
  | v :: r, o, w, us, h => by
    obtain ⟨us', h1, h2, h3⟩ := Own.cells_ r (o + 1) _ _ (h.set_ o v)
    refine ⟨us', by rw [h1, List.length_set], ?_, h3⟩
    have h4 := congrArg (List.take o) h2
    rw [List.take_take, List.take_take, show min o (o + 1) = o from by omega] at h4
    rw [h4, List.take_set_of_le (Nat.le_refl _)]
theorem only_setCells {lo hi g : Nat} {a : World} (h1 : lo ≤ g) (h2 : g < hi) : ∀ (vs : List Value) (o : Nat) (w : World), Only lo hi a w → Only lo hi a (w.setCells g o vs)
  | [], _, _, h => h
  | v :: r, o, w, h => only_setCells h1 h2 r (o + 1) _ (h.setCell h1 h2 v)

set_option maxHeartbeats 4000000 in
theorem deleteFunc_c (cl : Nat) (lb : Array Value) (p : Int → Bool) (b : Nat) (v0 : Value) (lo hi : Nat) (A : Option Addr) (c : Nat) (xs : List Int) (w : World) (eg : ∀ args w, (callFunc cl args).run Try.prog w = .ok (.enter cl args) w)
    (hp : PredM cl lb p ⟨b, 0, none⟩ v0 xs) (hc : w.cell? ⟨b, 0, none⟩ = some v0) (hb : b < lo) (ho : Own 3 lo hi w A c (xs.map (.int .i64))) (hz : hi ≤ w.heap.size) (hm : xs.length ≤ 1000) :
    Calls Try.prog 64 #[.slice A xs.length c, .func (.func cl) #[] lb] w
      fun e w' => e = .returned (.slice A (xs.filter fun x => !p x).length c) ∧ Own 3 lo hi w' A c ((xs.filter fun x => !p x).map (.int .i64)) ∧ Only lo hi w w' := by
  have hix := indexM_c cl lb p ⟨b, 0, none⟩ v0 A c xs w eg hp hc ho.ints (by omega)
  obtain ⟨R, hR⟩ : ∃ R, xs.filter (fun x => !p x) = R := ⟨_, rfl⟩
  rw [hR]
  rcases idxM_some p xs 0 with hn | ⟨j0, h1, h2, h3, x0, h4, h5⟩
  · have hall := idxM_none p xs 0 hn
    have hRx : R = xs := by rw [← hR, List.filter_eq_self]; intro a ha; rw [hall a ha]; rfl
    subst hRx
    rw [hn] at hix
    obtain ⟨n, hnn⟩ : ∃ n, R.length = n := ⟨_, rfl⟩
    rw [hnn] at hix ⊢
    have Hix := Lib.hid hix
    have Hp := Lib.hid hp
    have Hc := Lib.hid hc
    have Ho := Lib.hid ho
    have Hall := Lib.hid hall
    have HR := Lib.hid hR
    have Hnn := Lib.hid hnn
    have Hn := Lib.hid hn
    clear hix hp hc ho hall hR hnn hn
    go_enter Try.func64, Try.ntmps64
    go_wp2_with fail
    refine (Hix.out).mono ?_
    rintro e w1 ⟨rfl, hq⟩
    have ho1 := Ho.out.below (hq.below hi)
    have hon := only_of_below (lo := lo) (hi := hi) (hq.below w.heap.size) (Nat.le_refl _)
    have Ho1 := Lib.hid ho1
    have Hon := Lib.hid hon
    clear ho1 hon
    clear hq
    go_wp2
    go_ret
    exact ⟨rfl, Ho1.out, Hon.out⟩
  · rw [h1, Nat.zero_add] at hix
    have hj0 : (j0 : Int) ≠ -1 := by omega
    have e1 : ((j0 : Int) == -1) = false := by rw [beq_eq_false_iff_ne]; exact hj0
    have hq0 : (xs.take j0).filter (fun x => !p x) = xs.take j0 := by rw [List.filter_eq_self]; intro a ha; rw [h3 a ha]; rfl
    have hq1 : (xs.take (j0 + 1)).filter (fun x => !p x) = xs.take j0 := by rw [take_of h4, List.filter_append, hq0, List.filter_cons, h5]; simp
    have hne : xs ≠ [] := by intro e; rw [e] at h2; simp at h2
    obtain ⟨g, hA, hlg, hgh, _, _⟩ := ownr ho h4
    subst hA
    have hnc : xs.length ≤ c := by have := ho.1; simpa using this
    obtain ⟨n, hnn⟩ : ∃ n, xs.length = n := ⟨_, rfl⟩
    rw [hnn] at hix h2 hm hnc ⊢
    have hl0 : (xs.take j0).length = j0 := by rw [List.length_take]; omega
    have Hix := Lib.hid hix
    have Hp := Lib.hid hp
    have Hc := Lib.hid hc
    have Ho := Lib.hid ho
    have HR := Lib.hid hR
    have Hnn := Lib.hid hnn
    have H1 := Lib.hid h1
    have H3 := Lib.hid h3
    have H4 := Lib.hid h4
    have H5 := Lib.hid h5
    have Hq0 := Lib.hid hq0
    have Hq1 := Lib.hid hq1
    have Hne := Lib.hid hne
    have Hl0 := Lib.hid hl0
    clear hix hp hc ho hR hnn h1 h3 h4 h5 hq0 hq1 hne hl0
    clear hj0
    go_enter Try.func64, Try.ntmps64
    go_wp2_with fail
    refine (Hix.out).mono ?_
    rintro e w1 ⟨rfl, hq⟩
    have ho1 := Ho.out.below (hq.below hi)
    have hon := only_of_below (lo := lo) (hi := hi) (hq.below w.heap.size) (Nat.le_refl _)
    have Ho1 := Lib.hid ho1
    have Hon := Lib.hid hon
    clear ho1 hon
    clear hq
    go_wp2
    go_loopw [5, 6] (fun s t wr => ∃ (i j : Nat) (ys : List Int), i < j ∧ j ≤ n ∧ s = .int .i64 i ∧ t = .int .i64 j ∧ ys.length = n ∧ ys.take i = (xs.take j).filter (fun x => !p x) ∧ i = ((xs.take j).filter (fun x => !p x)).length ∧ ys.drop j = xs.drop j ∧ Own 3 lo hi wr (some ⟨g, 0, none⟩) c (ys.map (.int .i64)) ∧ Only lo hi w wr) (fun _ t _ => n - (intOf t).toNat)
    case atStart => exact ⟨j0, j0 + 1, xs, by omega, by omega, rfl, by go_num, Hnn.out, Hq1.out.symm, by rw [Hq1.out, Hl0.out], rfl, Ho1.out, Hon.out⟩
    case round =>
      obtain ⟨i, j, ys, hij, hj, rfl, rfl, hyl, ht, hil, hdr, hoy, hoy2⟩ := hrel
      by_cases hlt : j < n
      · have hji : (j : Int) < (n : Int) := by omega
        obtain ⟨v, hv⟩ := some_of (l := xs) (k := j) (by rw [Hnn.out]; exact hlt)
        have hvy : ys[j]? = some v := by
          have := congrArg (fun l => l[0]?) hdr
          simp only [List.getElem?_drop, Nat.add_zero] at this
          rw [this]; exact hv
        obtain ⟨g1, q1, _, _, cv, fv⟩ := ownr hoy hvy
        obtain rfl : g = g1 := by injection q1 with q1; injection q1
        obtain ⟨u, hu⟩ := some_of (l := ys) (k := i) (by omega)
        obtain ⟨g2, q2, _, _, cu, fu⟩ := ownr hoy hu
        obtain rfl : g = g2 := by injection q2 with q2; injection q2
        have hcc := cell_only hoy2 Hc.out (.inl (by show b < lo; exact hb))
        have hcall := Hp.out wr v (List.mem_of_getElem? hv) hcc
        have hjc : j < c := by omega
        have hic : i < c := by omega
        have hiy : (i : Int) < (n : Int) := by omega
        have hdr2 : ys.drop (j + 1) = xs.drop (j + 1) := by
          have := congrArg (List.drop 1) hdr
          rwa [List.drop_drop, List.drop_drop] at this
        clear q1 q2 hcc
        cases hpv : p v
        · rw [hpv] at hcall
          have hf : (xs.take (j + 1)).filter (fun x => !p x) = (xs.take j).filter (fun x => !p x) ++ [v] := by rw [take_of hv, List.filter_append, List.filter_cons, hpv]; rfl
          have hy2 : (ys.set i v).take (i + 1) = (xs.take (j + 1)).filter (fun x => !p x) := by
            rw [hf, ← ht]
            rw [List.take_add_one, List.getElem?_set_self (by omega), List.take_set_of_le (Nat.le_refl _)]; rfl
          have hi2 : i + 1 = ((xs.take (j + 1)).filter (fun x => !p x)).length := by rw [hf, List.length_append, ← hil]; rfl
          have hd2 : (ys.set i v).drop (j + 1) = xs.drop (j + 1) := by rw [List.drop_set_of_lt (by omega), hdr2]
          have hyl2 : (ys.set i v).length = n := by rw [List.length_set]; exact hyl
          have Hf := Lib.hid hf
          have Hy2 := Lib.hid hy2
          have Hi2 := Lib.hid hi2
          have Hd2 := Lib.hid hd2
          have Hyl2 := Lib.hid hyl2
          have Hyl := Lib.hid hyl
          have Ht := Lib.hid ht
          have Hil := Lib.hid hil
          have Hdr := Lib.hid hdr
          have Hdr2 := Lib.hid hdr2
          have Hoy := Lib.hid hoy
          have Hoy2 := Lib.hid hoy2
          have Hu := Lib.hid hu
          have Hv := Lib.hid hv
          have Hvy := Lib.hid hvy
          have Hpv := Lib.hid hpv
          clear hf hy2 hi2 hd2 hyl2 hyl ht hil hdr hdr2 hoy hoy2 hu hv hvy hpv
          go_wp2_with fail
          refine hcall.mono ?_
          rintro e w5 ⟨rfl, hq5⟩
          have cu5 := hq5.keep _ _ cu
          have fu5 := ((hq5.below hi).frozen (p := ⟨g, i, none⟩) hgh).trans fu
          have hO5 := (Hoy.out.below (hq5.below hi)).seti i v
          have hN5 := (only_below Hoy2.out (hq5.below wr.heap.size)).setCell (k := i) hlg hgh (.int .i64 v)
          have HO5 := Lib.hid hO5
          have HN5 := Lib.hid hN5
          clear hO5 hN5
          clear cv fv cu fu hq5 hcall
          go_wp2
          go_roundw
          case rel => exact ⟨i + 1, j + 1, ys.set i v, by omega, by omega, by go_num, by go_num, Hyl2.out, Hy2.out, Hi2.out, Hd2.out, HO5.out, HN5.out⟩
          case measure => simp [intOf]; omega
        · rw [hpv] at hcall
          have hf : (xs.take (j + 1)).filter (fun x => !p x) = (xs.take j).filter (fun x => !p x) := by rw [take_of hv, List.filter_append, List.filter_cons, hpv]; simp
          rw [← hf] at ht hil
          have Hf := Lib.hid hf
          have Hyl := Lib.hid hyl
          have Ht := Lib.hid ht
          have Hil := Lib.hid hil
          have Hdr := Lib.hid hdr
          have Hdr2 := Lib.hid hdr2
          have Hoy := Lib.hid hoy
          have Hoy2 := Lib.hid hoy2
          have Hu := Lib.hid hu
          have Hv := Lib.hid hv
          have Hvy := Lib.hid hvy
          have Hpv := Lib.hid hpv
          clear hf hyl ht hil hdr hdr2 hoy hoy2 hu hv hvy hpv
          go_wp2_with fail
          refine hcall.mono ?_
          rintro e w5 ⟨rfl, hq5⟩
          have hO5 := Hoy.out.below (hq5.below hi)
          have hN5 := only_below Hoy2.out (hq5.below wr.heap.size)
          have HO5 := Lib.hid hO5
          have HN5 := Lib.hid hN5
          clear hO5 hN5
          clear cv fv cu fu hq5 hcall
          go_wp2
          go_roundw
          case rel => exact ⟨i, j + 1, ys, by omega, by omega, rfl, by go_num, Hyl.out, Ht.out, Hil.out, Hdr2.out, HO5.out, HN5.out⟩
          case measure => simp [intOf]; omega
      · obtain rfl : j = n := by omega
        have hxj : xs.take j = xs := List.take_of_length_le (by rw [Hnn.out]; exact Nat.le_refl _)
        rw [hxj, HR.out] at ht hil
        have hci : ¬ c = i := by omega
        have hii : (i : Int) ≤ (j : Int) := by omega
        have hic2 : (i : Int) ≤ (c : Int) := by omega
        have hat : ∀ k, k < j - i → wr.cell? ⟨g, i + k, none⟩ = some (.int .i64 (ys.getD (i + k) 0)) ∧ wr.frozen? ⟨g, i + k, none⟩ = false := fun k hk => by
          obtain ⟨y, hy⟩ := some_of (l := ys) (k := i + k) (by omega)
          obtain ⟨g1, q1, _, _, cv, fv⟩ := ownr hoy hy
          obtain rfl : g = g1 := by injection q1 with q1; injection q1
          exact ⟨by rw [cv, List.getD_eq_getElem?_getD, hy]; rfl, fv⟩
        have hcl : ∀ ty, (Builtin.clear_ #[33] ty #[.slice (some ⟨g, i, none⟩) (j - i) (c - i)]).run Try.prog wr = .ok (.tuple #[]) (wr.setCells g i (List.replicate (j - i) (.int .i64 0))) :=
          fun ty => Lib.run_clear_slice wr 33 3 ty (.int .i64 0) Try.underlying33 Try.zeroValue3 rfl rfl g i (j - i) (c - i) (by omega) (fun k hk => by rw [(hat k hk).1]; rfl) (fun k hk => (hat k hk).2)
        obtain ⟨us', u1, u2, u3⟩ := Own.cells_ (List.replicate (j - i) (Value.int .i64 0)) i wr _ hoy
        have hne' : us' ≠ [] := by intro e; rw [e] at u1; simp at u1; omega
        have hfin := u3.cut i hne'
        rw [u2, ← List.map_take, ht] at hfin
        have hon2 := only_setCells hlg hgh (List.replicate (j - i) (Value.int .i64 0)) i wr hoy2
        have Hfin := Lib.hid hfin
        have Hon2 := Lib.hid hon2
        have Hil := Lib.hid hil
        have Ht := Lib.hid ht
        have Hyl := Lib.hid hyl
        have Hdr := Lib.hid hdr
        have Hoy := Lib.hid hoy
        have Hoy2 := Lib.hid hoy2
        have Hxj := Lib.hid hxj
        clear hfin hon2 hil ht hyl hdr hoy hoy2 hxj
        clear hat u1 u2 u3 hne'
        go_wp2
        go_ret
        exact ⟨by rw [← Hil.out]; rfl, Hfin.out, Hon2.out⟩

theorem headT1_c (S : Nat) (k : Nat) (bs : Nat) (W : World) (hS : S < 256) (hk : k < 8) (hc : W.cell? ⟨bs, 0, none⟩ = some (.int .i64 (S : Int))) :
    Calls Try.prog 66 #[.int .i64 (k : Int), .pointer (some ⟨bs, 0, none⟩)] W (Quiet W (.bool (!inSet S (k : Int)))) := by
  obtain ⟨u, hu⟩ : ∃ u, S / 2 ^ k = u := ⟨_, rfl⟩
  have hu256 : u < 256 := by rw [← hu]; exact Nat.lt_of_le_of_lt (Nat.div_le_self _ _) hS
  have f1 : (S : Int) / 2 ^ k = (u : Int) := by rw [← hu]; exact shr_nat S k
  have f2 : bits .and .i64 (u : Int) 1 = ((u % 2 : Nat) : Int) := and_one u (by omega)
  have hR : (!inSet S (k : Int)) = decide (u % 2 = 0) := by rw [inSet, Int.toNat_natCast, hu, Bool.eq_iff_iff]; simp
  rw [hR]
  have Hu := Lib.hid hu
  have HR := Lib.hid hR
  clear hu hR
  go_enter Try.func66, Try.ntmps66
  go_wp2
  go_ret
  exact ⟨ret_bool (by rw [Bool.eq_iff_iff, beq_iff_eq, decide_eq_true_iff]; omega), Dr.refl _⟩

def headF (n : Int) (rs : List Res) (s : Int) : List Nat := if amongOk n rs s = true ∧ s ≠ 0 then (tabF n (amongF s.toNat rs)).filter (fun k : Nat => inSet s.toNat (k : Int)) else []
theorem nums_filter (q : Int → Bool) (l : List Nat) : (nums l).filter q = nums (l.filter fun k : Nat => q (k : Int)) := by
  rw [nums, nums, List.filter_map]; rfl
theorem tabF_lt {n : Int} {rs : List Res} {k : Nat} (h : k ∈ tabF n rs) : (k : Int) < n := by
  rw [tabF] at h
  split at h
  · rename_i hok
    have := (league_of hok).two
    have := insAll_lt h
    omega
  · simp at h

set_option maxRecDepth 100000 in
set_option maxHeartbeats 4000000 in
theorem iHeadTable_c (n : Int) (A : Option Addr) (c : Nat) (rs : List Res) (s : Int) (w : World) (ha : Games w A rs) (hm : rs.length ≤ 1048576) :
    Calls Try.prog 29 #[lgv n A rs.length c, .int .i64 s] w (GivesI 3 w (nums (headF n rs s))) := by
  obtain ⟨R, hR⟩ : ∃ R, headF n rs s = R := ⟨_, rfl⟩
  rw [hR]
  have hac := fun W (h : Games W A rs) => iAmongClubs_c n A c rs s W h hm
  obtain ⟨b0, b1⟩ := box2 w (.int .i64 n) (.slice A rs.length c) 29
  have hbw : Below w.heap.size w ((w.alloc (.cells #[.int .i64 n, .slice A rs.length c] 29)).alloc (.cells #[.int .i64 s] 3)) := ((Below.refl _ _).alloc (Nat.le_refl _) _).alloc (by simp) _
  have hg0 := ha.keep (keep_of_below hbw)
  obtain ⟨W, hW⟩ : ∃ W, (w.alloc (.cells #[.int .i64 n, .slice A rs.length c] 29)).alloc (.cells #[.int .i64 s] 3) = W := ⟨_, rfl⟩
  obtain ⟨bs, hbs⟩ : ∃ bs, w.heap.size + 1 = bs := ⟨_, rfl⟩
  have hWz : W.heap.size = bs + 1 := by rw [← hW, ← hbs]; simp
  have s0 : W.cell? ⟨bs, 0, none⟩ = some (.int .i64 s) := by rw [← hW, ← hbs]; simp
  rw [hW] at hg0 hbw
  unfold lgv at hac ⊢
  have HWe := Lib.hid hW
  have Hbs := Lib.hid hbs
  have Hg0 := Lib.hid hg0
  have Hbw := Lib.hid hbw
  clear hW hbs hg0 hbw b0 b1
  have Ha := Lib.hid ha
  have Hac := Lib.hid hac
  have HR := Lib.hid hR
  have HWz := Lib.hid hWz
  clear ha hac hR hWz
  go_enter Try.func29, Try.ntmps29
  go_wp2_with fail
  rw [HWe.out]
  simp only [Hbs.out]
  refine (Hac.out _ Hg0.out).mono ?_
  rintro e w2 ⟨hb2, hcase⟩
  have s2 := keep_of_below hb2 _ _ s0
  have hbs2 : bs < w2.heap.size := by have := hb2.size; have := HWz.out; omega
  have hwbs : w.heap.size < bs := by have := Hbs.out; omega
  have Hb2 := Lib.hid (Hbw.out.trans (hb2.mono Hbw.out.size))
  have hmf : ∀ (fn : Fn) (first cap : Array Value) (w : World), (Instr.makeFunc fn first cap).run Try.prog w = .ok (.func fn first cap) w := fun _ _ _ _ => rfl
  have eg := enters_of Try.func66 (by kernel_rfl) rfl
  rcases hcase with ⟨hno, rfl⟩ | ⟨hyes, A1, c1, rfl, hg2⟩
  · have hR2 : R = [] := by rw [← HR.out, headF, if_neg (fun e => by rw [hno] at e; exact absurd e.1 (by decide))]
    subst hR2
    unfold lgv
    have Hno := Lib.hid hno
    have Eg := Lib.hid eg
    clear hno eg
    clear hb2
    go_wp2
    go_ret
    exact ⟨none, 0, rfl, Own.nil .., Hb2.out.alloc Hb2.out.size _⟩
  · unfold lgv
    by_cases hs0 : s = 0
    · have e0 : (s == 0) = true := by simp [hs0]
      have hR2 : R = [] := by rw [← HR.out, headF, if_neg (fun e => e.2 hs0)]
      subst hR2
      have Hyes := Lib.hid hyes
      have Hg2 := Lib.hid hg2
      have Hs0 := Lib.hid hs0
      have Eg := Lib.hid eg
      clear hyes hg2 hs0 eg
      clear hb2
      go_wp2
      go_ret
      exact ⟨none, 0, rfl, Own.nil .., Hb2.out.alloc Hb2.out.size _⟩
    · have e0 : (s == 0) = false := by simpa using hs0
      have hyes2 := hyes
      rw [amongOk, Bool.and_eq_true] at hyes2
      have hL := league_of hyes2.1
      have hn8 := hL.eight
      obtain ⟨hs1, hs2⟩ := inR_true hyes2.2
      obtain ⟨S, rfl⟩ := Int.eq_ofNat_of_zero_le hs1
      have hN : 2 ^ n.toNat ≤ 256 := (Nat.pow_le_pow_right (by decide) (by omega) : 2 ^ n.toNat ≤ 2 ^ 8)
      have hS : S < 256 := by omega
      have hR2 : R = (tabF n (amongF S rs)).filter (fun k : Nat => inSet S (k : Int)) := by rw [← HR.out, headF, if_pos ⟨hyes, hs0⟩, Int.toNat_natCast]
      rw [Int.toNat_natCast] at hg2 ⊢
      have hfew : (amongF S rs).length ≤ 1048576 := Nat.le_trans (List.length_filter_le _ _) hm
      have htl : (tabF n (amongF S rs)).length ≤ 8 := by
        rw [tabF]; split
        · rw [tableF, insAll_len]; omega
        · simp
      obtain ⟨T, hT⟩ : ∃ T, tabF n (amongF S rs) = T := ⟨_, rfl⟩
      have hlt : ∀ k ∈ T, k < 8 := fun k hk => by rw [← hT] at hk; have := tabF_lt hk; omega
      have hpm : PredM 66 #[.pointer (some ⟨bs, 0, none⟩)] (fun x => !inSet S x) ⟨bs, 0, none⟩ (.int .i64 (S : Int)) (nums T) := fun W x hx hc => by
        obtain ⟨k, hk, rfl⟩ := List.mem_map.1 hx
        exact headT1_c S k bs W hS (hlt k hk) hc
      have htc := fun W (h : Games W A1 (amongF S rs)) => iTableOf_c n A1 c1 (amongF S rs) W h hfew
      unfold lgv at htc
      rw [hT] at hR2 htl
      simp only [hT] at htc
      have hfl : (nums T).filter (fun x => !!inSet S x) = nums R := by
        rw [hR2, ← nums_filter]; congr 1; funext x; rw [Bool.not_not]
      obtain ⟨L, hL2⟩ : ∃ L, (amongF S rs).length = L := ⟨_, rfl⟩
      rw [hL2] at htc ⊢
      have hnl : (nums T).length = T.length := by rw [nums, List.length_map]
      have htl2 : (nums T).length ≤ 1000 := by omega
      have Hyes := Lib.hid hyes
      have Hyes2 := Lib.hid hyes2
      have Hg2 := Lib.hid hg2
      have Hs0 := Lib.hid hs0
      have Eg := Lib.hid eg
      have HT := Lib.hid hT
      have Hlt := Lib.hid hlt
      have Hpm := Lib.hid hpm
      have Htc := Lib.hid htc
      have HR2 := Lib.hid hR2
      have Hfl := Lib.hid hfl
      have HL2 := Lib.hid hL2
      have HL := Lib.hid hL
      have Htl := Lib.hid htl
      have Hnl := Lib.hid hnl
      clear hyes hyes2 hg2 hs0 eg hT hlt hpm htc hR2 hfl hL2 hL htl hnl
      clear hN hs2
      go_wp2_with fail
      have hb3 : Below w2.heap.size w2 (w2.alloc (.cells #[.int .i64 n, .slice A1 L c1] 29)) := (Below.refl _ _).alloc (Nat.le_refl _) _
      refine (Htc.out _ (Hg2.out.keep (keep_of_below hb3))).mono ?_
      rintro e w4 ⟨B, d, rfl, ho4, hb4⟩
      have hb24 := hb3.trans (hb4.mono hb3.size)
      have s4 := keep_of_below hb24 _ _ s2
      have hb44 := Hb2.out.trans (hb24.mono Hb2.out.size)
      have hz3 : w2.heap.size + 1 ≤ w4.heap.size := by have := hb4.size; simpa using this
      have ho5 := ho4.wide (lo' := w2.heap.size) (by simp) (Nat.le_refl _)
      have hdf := deleteFunc_c 66 #[.pointer (some ⟨bs, 0, none⟩)] (fun x => !inSet S x) bs (.int .i64 (S : Int)) w2.heap.size w4.heap.size B d (nums T) w4 Eg.out Hpm.out s4 hbs2 ho5 (Nat.le_refl _) htl2
      rw [Hfl.out, Hnl.out] at hdf
      have hwz2 := Hb2.out.size
      have Hdf := Lib.hid hdf
      have Hb44 := Lib.hid hb44
      clear hdf hb44
      clear hb2 hb3 hb4 ho4 ho5 hb24 s2 s4
      go_wp2_with fail
      refine Hdf.out.mono ?_
      rintro e w5 ⟨rfl, ho6, hon6⟩
      have hb6 := Hb44.out.trans (below_of_only (B := w.heap.size) hon6 hwz2 Hb44.out.size)
      have ho7 := ho6.wide (lo' := w.heap.size) (hi' := w5.heap.size) hwz2 (by have := hon6.size; omega)
      have Hb6 := Lib.hid hb6
      have Ho7 := Lib.hid ho7
      clear hb6 ho7
      clear ho6 hon6
      go_wp2
      go_ret
      exact ⟨B, d, rfl, Ho7.out, Hb6.out⟩
end Go.Proofs.Ytehlijpjcjegcaa
