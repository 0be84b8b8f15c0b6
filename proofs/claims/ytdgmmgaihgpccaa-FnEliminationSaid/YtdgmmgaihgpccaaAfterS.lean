/- Contract: whether a beginning of results leaves a club in the race (reference's l14After). -/
import Derived.Test.YtdgmmgaihgpccaaSplit
import Derived.Test.YtdgmmgaihgpccaaProof
import Derived.Test.YtdgmmgaihgpccaaClone
namespace Go.Proofs.Ytdgmmgaihgpccaa
set_option linter.unusedSimpArgs false
set_option linter.unusedVariables false
open Go.RowKit

/-- Headers of rows that read as a list. -/
structure Heads (w : World) (us : List Value) (xss : List (List Int)) : Prop where
  len : us.length = xss.length
  at_ : ∀ (k : Nat) (xs : List Int), xss[k]? = some xs → ∃ (a : Option Addr) (c : Nat), us[k]? = some (Value.slice a xs.length c) ∧ xs.length ≤ c ∧ c ≤ maxLen ∧ Ints w a xs
theorem Heads.keep {w w' : World} {us : List Value} {xss : List (List Int)} (h : Heads w us xss) (k : Keep w w') : Heads w' us xss :=
  ⟨h.len, fun i xs hx => by obtain ⟨a, c, e, h1, h2, h3⟩ := h.at_ i xs hx; exact ⟨a, c, e, h1, h2, h3.keep k⟩⟩
theorem Heads.nil (w : World) : Heads w [] [] := ⟨rfl, fun k xs h => by simp at h⟩
theorem Heads.snoc {w : World} {us : List Value} {xss : List (List Int)} (h : Heads w us xss) {xs : List Int} {a : Option Addr} {c : Nat} (h1 : xs.length ≤ c) (h2 : c ≤ maxLen) (h3 : Ints w a xs) : Heads w (us ++ [Value.slice a xs.length c]) (xss ++ [xs]) := by
  refine ⟨by simp [h.len], fun k ys hk => ?_⟩
  rw [List.getElem?_append] at hk
  by_cases hlt : k < xss.length
  · rw [if_pos hlt] at hk
    obtain ⟨b, d, e, r⟩ := h.at_ k ys hk
    exact ⟨b, d, by rw [List.getElem?_append, if_pos (by rw [h.len]; exact hlt)]; exact e, r⟩
  · rw [if_neg hlt] at hk
    have h4 := lt_of hk
    have h5 : k - xss.length = 0 := by simpa using h4
    rw [h5] at hk
    simp at hk
    subst hk
    exact ⟨a, c, by rw [List.getElem?_append, if_neg (by rw [h.len]; exact hlt), h.len, h5]; rfl, h1, h2, h3⟩
theorem Own.heads {T : TypeId} {lo hi : Nat} {w : World} {A : Option Addr} {c : Nat} {us : List Value} {xss : List (List Int)} (h : Own T lo hi w A c us) (k : Heads w us xss) : Rows w A xss := fun i xs hx => by
  obtain ⟨a, d, e, h1, h2, h3⟩ := k.at_ i xs hx
  obtain ⟨g, rfl, _, _, hc, _⟩ := h.at_ e
  exact ⟨_, a, d, rfl, h1, h2, by rw [addr_zero_add]; exact hc, h3⟩
/-- What lies in a block of another type stays where a row grows. -/
theorem Own.apart {T TT : TypeId} {lo hi lo2 hi2 : Nat} {w w' : World} {A : Option Addr} {c : Nat} {us : List Value} {B : Option Addr} {d n : Nat} {vs : List Value} (h : Own T lo hi w A c us) (hg : w.grownBy w' (Value.slice B n d).ownBlock) (ho : Own TT lo2 hi2 w B d vs) (hT : T ≠ TT) (hhi : hi ≤ w.heap.size) : Own T lo hi w' A c us := by
  obtain ⟨e1, e2, e3⟩ := h
  refine ⟨e1, e2, ?_⟩
  rcases e3 with e3 | ⟨g, cs, f1, f2, f3, f4, f5⟩
  · exact .inl e3
  · refine .inr ⟨g, cs, f1, f2, f3, ?_, f5⟩
    rw [hg.block g (by omega) ?_]
    · exact f4
    · intro e
      obtain ⟨_, _, o3⟩ := ho
      rcases o3 with ⟨o, _⟩ | ⟨g', cs', o, _, _, o4, _⟩
      · subst o; simp [Value.ownBlock] at e
      · subst o
        simp only [Value.ownBlock, Option.some.injEq] at e
        subst e
        rw [f4] at o4
        injection o4 with o4
        injection o4 with _ o5
        exact hT o5
theorem Own.stay_set {T TT : TypeId} {lo hi lo2 hi2 : Nat} {w : World} {A : Option Addr} {c : Nat} {us : List Value} {g n : Nat} {vs : List Value} (h : Own T lo hi w A c us) (ho : Own TT lo2 hi2 w (some ⟨g, 0, none⟩) n vs) (hT : TT ≠ T) (k : Nat) (v : Value) :
    Own T lo hi (w.setCell ⟨g, k, none⟩ v) A c us := by
  obtain ⟨e1, e2, e3⟩ := h
  refine ⟨e1, e2, ?_⟩
  rcases e3 with e3 | ⟨g', cs, f1, f2, f3, f4, f5⟩
  · exact .inl e3
  · refine .inr ⟨g', cs, f1, f2, f3, ?_, f5⟩
    rw [Below.heap_setCell w ⟨g, k, none⟩ v g' ?_]
    · exact f4
    · intro e
      obtain ⟨_, _, o3⟩ := ho
      rcases o3 with ⟨o, _⟩ | ⟨g2, cs', o, _, _, o4, _⟩
      · cases o
      · injection o with o
        injection o with o
        have e' : g' = g := e
        subst o; subst e'
        rw [f4] at o4
        injection o4 with o4
        injection o4 with _ o5
        exact hT o5.symm
theorem rows_behind {w : World} {A : Addr} {q d : Nat} {xss : List (List Int)} (h : Rows w (some A) xss) (hd : xss.length ≤ d) :
    Rows w (if d = q then some A else some (A.add q)) (xss.drop q) := by
  intro k xs hx
  rw [List.getElem?_drop] at hx
  have := lt_of hx
  rw [if_neg (by omega)]
  obtain ⟨ad, a, c, e, h1, h2, h3, h4⟩ := h _ xs hx
  injection e with e
  subst e
  refine ⟨_, a, c, rfl, h1, h2, ?_, h4⟩
  have e2 : (A.add q).add k = A.add (q + k) := by unfold Addr.add; split <;> split <;> simp_all <;> omega
  rw [e2]; exact h3

set_option maxRecDepth 100000 in
set_option maxHeartbeats 4000000 in
theorem l14After_c (A : Option Addr) (B : Addr) (c d i : Nat) (now : List Int) (left : List (List Int)) (club : Nat) (best : Int) (w : World) (ha : Ints w A now) (hb : Rows w (some B) left) (hn : now.length ≤ 6)
    (hw : ∀ v ∈ now, 0 ≤ v ∧ v ≤ 800) (hg : Games now.length left) (hk : club < now.length) (hb0 : 0 ≤ best) (hb1 : best ≤ 800) (hi : i ≤ left.length) (hcap : left.length ≤ d) (hd : d ≤ maxLen) :
    Calls Try.prog 55 #[.slice A now.length c, .slice (some B) left.length d, .int .i64 club, .int .i64 (i : Int), .int .i64 best] w (Gives w (.bool (decide (proofAt now (left.drop i) club best = 0)))) := by
  generalize hR : decide (proofAt now (left.drop i) club best = 0) = R
  have HR := Lib.hid hR
  clear hR
  have hgd : ∀ g ∈ left.drop i, ∃ x y z : Nat, g = [(x : Int), (y : Int), (z : Int)] ∧ x < y ∧ y < now.length ∧ 1 ≤ z ∧ z ≤ 20 := fun g hgm => hg.game g (List.mem_of_mem_drop hgm)
  have hfew := hg.few
  obtain ⟨m, hm⟩ : ∃ m, left.length - i = m := ⟨_, rfl⟩
  have hml : (left.drop i).length = m := by rw [List.length_drop, hm]
  have hrb : Rows w (if d = i then some B else some (B.add i)) (left.drop i) := rows_behind hb hcap
  have hi1 : (i : Int) ≤ (left.length : Int) := by omega
  obtain ⟨ad0, rfl⟩ : ∃ ad, A = some ad := by
    obtain ⟨v, hv⟩ := some_of (l := now) (k := 0) (by omega)
    obtain ⟨ad, e, _⟩ := ha 0 v hv
    exact ⟨ad, e⟩
  have Ha := Lib.hid ha
  have Hb := Lib.hid hb
  have Hw := Lib.hid hw
  have Hg := Lib.hid hg
  have Hgd := Lib.hid hgd
  have Hml := Lib.hid hml
  have Hrb := Lib.hid hrb
  clear ha hb hw hg hgd hml hrb
  have hbA : Below w.heap.size w (w.alloc (.cells #[] 22)) := (Below.refl _ _).alloc (Nat.le_refl _) _
  have hoA := out_empty 22 w.heap.size w (Nat.le_refl _)
  have haA := Ha.out.keep (keep_of_below hbA)
  have hsA := hbA.size
  have haA2 := (haA.keep (keep_of_below ((Below.refl _ _).alloc (Nat.le_refl _) (.cells #[] 3)))).cells
  have hoB := out_empty 3 (w.alloc (.cells #[] 22)).heap.size (w.alloc (.cells #[] 22)) (Nat.le_refl _)
  have ez : (w.alloc (.cells #[] 22)).heap.size = w.heap.size + 1 := by simp
  rw [ez] at hoB
  have HbA := Lib.hid hbA
  have HoA := Lib.hid hoA
  have HaA := Lib.hid haA
  have HaA2 := Lib.hid haA2
  have HoB := Lib.hid hoB
  clear hbA hoA haA haA2 hoB
  by_cases hdi : d = i
  · go_enter Try.func55, Try.ntmps55
    go_wp2_with (at_builtin; refine wpList_appN rfl (.tmp 18) (.tmp 19) 22 rfl 3 (.int .i64 0) 8 Try.underlying22 info_int rfl (w.heap.size + 1) (some ⟨w.heap.size + 1, 0, none⟩) 0 [] ?_ ?_ (some ad0) c (now.map (.int .i64)) ?_ ?_ ?_ ?_ ?_ 0 now.length ?_ ?_ ?_ ?_ ?_; exact HoB.out; simp; exact HaA2.out; exact ints_oneCell .i64 now; decide; (simp; omega); decide; rfl; simp; rfl; rfl; intro C cc w2 ho' hb' _ hz')
    rw [List.nil_append] at ho'
    have hb2 : Below (w.alloc (.cells #[] 22)).heap.size (w.alloc (.cells #[] 22)) w2 := ((Below.refl _ _).alloc (Nat.le_refl _) _).trans (hb'.mono (by simp))
    have Hb2 := Lib.hid (HbA.out.trans (hb2.mono HbA.out.size))
    have HoR := Lib.hid (HoA.out.below hb2)
    have hs2 := hb2.size
    clear hb2 hb' hz' HoA HoB HaA HaA2 HbA
    rw [ez] at hs2 HoR
    clear ez hsA
    obtain ⟨g0, rfl⟩ : ∃ g0, C = some ⟨g0, 0, none⟩ := by
      obtain ⟨v, hv⟩ := some_of (l := now) (k := 0) (by omega)
      obtain ⟨g0, e, _⟩ := ownr ho' hv
      exact ⟨g0, e⟩
    have hg0 : w.heap.size ≤ g0 := by
      obtain ⟨v, hv⟩ := some_of (l := now) (k := 0) (by omega)
      obtain ⟨g1, e, h, _⟩ := ownr ho' hv
      obtain rfl : g0 = g1 := by injection e with e; injection e
      omega
    have Ho' := Lib.hid ho'
    clear ho'
    have hlen : (now.map (Value.int .i64)).length = now.length := by simp
    have hrows0 := Hrb.out
    rw [if_pos hdi] at hrows0
    obtain ⟨Q, hQ⟩ : ∃ Q, B = Q := ⟨_, rfl⟩
    rw [hQ] at hrows0
    have Hrows0 := Lib.hid hrows0
    clear hrows0
    go_wp2
    rw [hQ]
    clear hQ Hrb Hb
    go_loopw [25, 11] (fun j o wr => ∃ (k : Nat) (us : List Value) (A' : Option Addr) (c' : Nat), k ≤ m ∧ j = .int .i64 k ∧ o = .slice A' us.length c' ∧ Own 22 w.heap.size wr.heap.size wr A' c' us ∧ Heads w us (restOf club ((left.drop i).take k)) ∧ Own 3 (w.heap.size + 1) w2.heap.size wr (some ⟨g0, 0, none⟩) cc (now.map (.int .i64)) ∧ Below w.heap.size w wr ∧ w2.heap.size ≤ wr.heap.size) (fun j _ _ => m - (intOf j).toNat)
    case atStart => exact ⟨0, [], _, 0, Nat.zero_le _, rfl, rfl, HoR.out.wide (Nat.le_refl _) hs2, by simpa [restOf] using Heads.nil w, Ho'.out, Hb2.out, Nat.le_refl _⟩
    case round =>
      obtain ⟨k, us, A', c', hkm, rfl, rfl, ho, hh, hn2, hdn, hzr⟩ := hrel
      have hul : us.length ≤ 15 := by
        have h1 := hh.len
        have h2 : (restOf club ((left.drop i).take k)).length ≤ ((left.drop i).take k).length := List.length_filter_le _ _
        rw [List.length_take] at h2
        omega
      have Ho := Lib.hid ho
      have Hh := Lib.hid hh
      have Hn2 := Lib.hid hn2
      have Hdn := Lib.hid hdn
      clear ho hh hn2 hdn
      by_cases hlt : k < m
      · omega
      · obtain rfl : k = m := by omega
        have hre : (left.drop i).take k = left.drop i := List.take_of_length_le (by rw [Hml.out]; exact Nat.le_refl _)
        have HH := Lib.hid Hh.out
        rw [hre] at HH
        clear hre Hh
        obtain ⟨g1, e1, _, _, hc0, hf0⟩ := ownr Hn2.out (k := club) (x := now.getD club 0) (by rw [List.getElem?_eq_getElem hk, List.getD_eq_getElem?_getD, List.getElem?_eq_getElem hk]; rfl)
        obtain rfl : g0 = g1 := by injection e1 with e; injection e
        clear e1
        have hki : (club : Int) < (now.length : Int) := by omega
        have Ho4 := Lib.hid (Hn2.out.seti club best)
        have Hrr := Lib.hid ((Ho.out.heads (HH.out.keep (keep_of_below Hdn.out))))
        have HrO := Lib.hid Ho.out
        go_wp2
        obtain ⟨wo, hwo⟩ : ∃ wo : World, wo = wr.setCell ⟨g0, club, none⟩ (.int .i64 best) := ⟨_, rfl⟩
        rw [← hwo] at Ho4 ⊢
        have hd4 : Below w.heap.size w wo := by rw [hwo]; exact Hdn.out.setCell (p := ⟨g0, club, none⟩) hg0 _
        have hr4 : Rows wo A' (restOf club (left.drop i)) := by
          have hst : Own 22 w.heap.size wr.heap.size wo A' c' us := by
            rw [hwo]
            exact HrO.out.stay_set Hn2.out (fun e => info_rows_ne e) _ _
          exact hst.heads (HH.out.keep (keep_of_below hd4))
        have Hi4 := Lib.hid Ho4.out.ints
        have HW4 : Hid (∀ v ∈ now.set club best, 0 ≤ v ∧ v ≤ 1000) := Lib.hid (fun v hv => by
          rcases List.mem_or_eq_of_mem_set hv with hv | rfl
          · have := Hw.out v hv; omega
          · omega)
        have HG4 : Hid (Games (now.set club best).length (restOf club (left.drop i))) := Lib.hid ⟨by
          have h1 : (restOf club (left.drop i)).length ≤ (left.drop i).length := List.length_filter_le _ _
          rw [List.length_drop] at h1; omega, fun g hgm => by rw [List.length_set]; exact Hgd.out g ((List.mem_filter.1 hgm).1)⟩
        have hL4 : (now.set club best).length = now.length := List.length_set
        have Hus : Hid (us.length = (restOf club (left.drop i)).length) := Lib.hid HH.out.len
        have hpr := fun W hi hr => l14Proof_c (some ⟨g0, 0, none⟩) A' cc c' (now.set club best) (restOf club (left.drop i)) club W hi hr (by rw [hL4]; exact hn) HW4.out HG4.out (by rw [hL4]; exact hk)
        rw [hL4, ← Hus.out] at hpr
        have HP : Hid ((proofAt (now.set club best) (restOf club (left.drop i)) club ((now.set club best).getD club 0 + leftOf (club : Int) 0 (restOf club (left.drop i))) = 0) = (proofAt now (left.drop i) club best = 0)) := Lib.hid (propext (rest_proof best Hgd.out hk))
        generalize hpv : proofAt (now.set club best) (restOf club (left.drop i)) club ((now.set club best).getD club 0 + leftOf (club : Int) 0 (restOf club (left.drop i))) = pv at hpr HP
        have Hd4 := Lib.hid hd4
        have Hr4 := Lib.hid hr4
        clear hwo hd4 hr4 hpv hc0 hf0 Ho Hrr HrO Hn2 Hdn HH
        have Hpr := Lib.hid hpr
        clear hpr
        go_loopw [52] (fun j wr => ∃ (k : Nat), k ≤ now.length ∧ j = .int .i64 k ∧ Dr wo wr) (fun j _ => now.length - (intOf j).toNat)
        case atStart => exact ⟨0, Nat.zero_le _, rfl, Dr.refl _⟩
        case round =>
          obtain ⟨j, hj, rfl, hd5⟩ := hrel
          have Hd5 := Lib.hid hd5
          clear hd5
          by_cases hlt5 : j < now.length
          · obtain ⟨v, hv⟩ := some_of (l := now.set club best) (k := j) (by rw [hL4]; exact hlt5)
            obtain ⟨ad5, e5, hcv⟩ := (Hi4.out.keep Hd5.out.keep) j v hv
            have hcv' : wr.cell? ⟨g0, j, none⟩ = some (.int .i64 v) := by injection e5 with e5; subst e5; rwa [addr_zero_add] at hcv
            clear e5 hcv
            by_cases ejc : j = club
            · have e6 : ((j : Int) != (club : Int)) = false := by simp [ejc]
              have Ejc := Lib.hid ejc
              clear ejc
              clear hv
              go_wp2
              go_roundw
              case rel => exact ⟨j + 1, by omega, by go_num, Hd5.out⟩
              case measure => simp [intOf]; omega
            · have e6 : ((j : Int) != (club : Int)) = true := by simp; omega
              by_cases hvb : best < v
              · have HF : Hid (false = R) := Lib.hid (by
                  rw [← HR.out]
                  symm
                  rw [decide_eq_false_iff_not, fits_iff]
                  intro hfits
                  have h1 := fits_one Hgd.out hfits hlt5 ejc
                  rw [List.getElem?_set_ne (fun e => ejc e.symm)] at hv
                  rw [List.getD_eq_getElem?_getD, hv] at h1
                  simp at h1; omega)
                clear hv
                go_wp2
                go_ret
                exact ⟨ret_bool HF.out, Hd4.out.trans (Hd5.out.below _)⟩
              · clear hv
                go_wp2
                go_roundw
                case rel => exact ⟨j + 1, by omega, by go_num, Hd5.out⟩
                case measure => simp [intOf]; omega
          · obtain rfl : j = now.length := by omega
            have hc5 := Hpr.out wr (Hi4.out.keep Hd5.out.keep) (Hr4.out.keep Hd5.out.keep)
            have Hc5 := Lib.hid hc5
            clear hc5
            go_wp2_with fail
            refine (Hc5.out).mono ?_
            rintro e w6 ⟨rfl, hq6⟩
            go_wp2
            go_ret
            exact ⟨ret_bool (by rw [← HR.out, ← decide_eq_decide.2 (Iff.of_eq HP.out)]; rw [Bool.eq_iff_iff, beq_iff_eq, decide_eq_true_iff]; omega), Hd4.out.trans ((Hd5.out.trans hq6).below _)⟩
  · go_enter Try.func55, Try.ntmps55
    go_wp2_with (at_builtin; refine wpList_appN rfl (.tmp 18) (.tmp 19) 22 rfl 3 (.int .i64 0) 8 Try.underlying22 info_int rfl (w.heap.size + 1) (some ⟨w.heap.size + 1, 0, none⟩) 0 [] ?_ ?_ (some ad0) c (now.map (.int .i64)) ?_ ?_ ?_ ?_ ?_ 0 now.length ?_ ?_ ?_ ?_ ?_; exact HoB.out; simp; exact HaA2.out; exact ints_oneCell .i64 now; decide; (simp; omega); decide; rfl; simp; rfl; rfl; intro C cc w2 ho' hb' _ hz')
    rw [List.nil_append] at ho'
    have hb2 : Below (w.alloc (.cells #[] 22)).heap.size (w.alloc (.cells #[] 22)) w2 := ((Below.refl _ _).alloc (Nat.le_refl _) _).trans (hb'.mono (by simp))
    have Hb2 := Lib.hid (HbA.out.trans (hb2.mono HbA.out.size))
    have HoR := Lib.hid (HoA.out.below hb2)
    have hs2 := hb2.size
    clear hb2 hb' hz' HoA HoB HaA HaA2 HbA
    rw [ez] at hs2 HoR
    clear ez hsA
    obtain ⟨g0, rfl⟩ : ∃ g0, C = some ⟨g0, 0, none⟩ := by
      obtain ⟨v, hv⟩ := some_of (l := now) (k := 0) (by omega)
      obtain ⟨g0, e, _⟩ := ownr ho' hv
      exact ⟨g0, e⟩
    have hg0 : w.heap.size ≤ g0 := by
      obtain ⟨v, hv⟩ := some_of (l := now) (k := 0) (by omega)
      obtain ⟨g1, e, h, _⟩ := ownr ho' hv
      obtain rfl : g0 = g1 := by injection e with e; injection e
      omega
    have Ho' := Lib.hid ho'
    clear ho'
    have hlen : (now.map (Value.int .i64)).length = now.length := by simp
    have hrows0 := Hrb.out
    rw [if_neg hdi] at hrows0
    obtain ⟨Q, hQ⟩ : ∃ Q, B.add i = Q := ⟨_, rfl⟩
    rw [hQ] at hrows0
    have Hrows0 := Lib.hid hrows0
    clear hrows0
    go_wp2
    rw [hQ]
    clear hQ Hrb Hb
    go_loopw [25, 11] (fun j o wr => ∃ (k : Nat) (us : List Value) (A' : Option Addr) (c' : Nat), k ≤ m ∧ j = .int .i64 k ∧ o = .slice A' us.length c' ∧ Own 22 w.heap.size wr.heap.size wr A' c' us ∧ Heads w us (restOf club ((left.drop i).take k)) ∧ Own 3 (w.heap.size + 1) w2.heap.size wr (some ⟨g0, 0, none⟩) cc (now.map (.int .i64)) ∧ Below w.heap.size w wr ∧ w2.heap.size ≤ wr.heap.size) (fun j _ _ => m - (intOf j).toNat)
    case atStart => exact ⟨0, [], _, 0, Nat.zero_le _, rfl, rfl, HoR.out.wide (Nat.le_refl _) hs2, by simpa [restOf] using Heads.nil w, Ho'.out, Hb2.out, Nat.le_refl _⟩
    case round =>
      obtain ⟨k, us, A', c', hkm, rfl, rfl, ho, hh, hn2, hdn, hzr⟩ := hrel
      have hul : us.length ≤ 15 := by
        have h1 := hh.len
        have h2 : (restOf club ((left.drop i).take k)).length ≤ ((left.drop i).take k).length := List.length_filter_le _ _
        rw [List.length_take] at h2
        omega
      have Ho := Lib.hid ho
      have Hh := Lib.hid hh
      have Hn2 := Lib.hid hn2
      have Hdn := Lib.hid hdn
      clear ho hh hn2 hdn
      by_cases hlt : k < m
      · have hlti : (k : Int) < (m : Int) := by omega
        obtain ⟨g, hx⟩ := some_of (l := left.drop i) (k := k) (by rw [Hml.out]; exact hlt)
        obtain ⟨bd, b', c2, e1, hg1, hg2, hcw, hia⟩ := Hrows0.out k g hx
        obtain rfl : Q = bd := by injection e1
        obtain ⟨x, y, z, rfl, hxy, hyn, hz1, hz2⟩ := Hgd.out g (List.mem_of_getElem? hx)
        obtain ⟨ad, rfl, h0w, h1w, h2w⟩ := ints3 hia
        have hca : wr.cell? (Q.add k) = some (.slice (some ad) 3 c2) := keep_of_below Hdn.out _ _ hcw
        have h0 := keep_of_below Hdn.out _ _ h0w
        have h1 := keep_of_below Hdn.out _ _ h1w
        have HT : Hid (restOf club ((left.drop i).take (k + 1)) = if (x : Int) ≠ (club : Int) ∧ (y : Int) ≠ (club : Int) then restOf club ((left.drop i).take k) ++ [[(x : Int), (y : Int), (z : Int)]] else restOf club ((left.drop i).take k)) := Lib.hid (by rw [take_of hx]; exact restOf_snoc _ _ _)
        clear h0w h1w h2w hcw e1
        have hg1' : 3 ≤ c2 := hg1
        have Hx := Lib.hid hx
        have Hia := Lib.hid hia
        have Hg1 := Lib.hid hg1
        clear hx hia hg1
        by_cases e0 : (x : Int) = (club : Int)
        · have e0' : ((x : Int) != (club : Int)) = false := by simpa using e0
          have HT2 : Hid (restOf club ((left.drop i).take (k + 1)) = restOf club ((left.drop i).take k)) := Lib.hid (by have := HT.out; rwa [if_neg (fun h => h.1 e0)] at this)
          have E0 := Lib.hid e0
          clear e0
          go_wp2
          go_roundw
          case rel => exact ⟨k + 1, us, A', c', by omega, by go_num, rfl, Ho.out, by rw [HT2.out]; exact Hh.out, Hn2.out, Hdn.out, hzr⟩
          case measure => simp [intOf]; omega
        · have e0' : ((x : Int) != (club : Int)) = true := by simpa using e0
          by_cases e1 : (y : Int) = (club : Int)
          · have e1' : ((y : Int) != (club : Int)) = false := by simpa using e1
            have HT2 : Hid (restOf club ((left.drop i).take (k + 1)) = restOf club ((left.drop i).take k)) := Lib.hid (by have := HT.out; rwa [if_neg (fun h => h.2 e1)] at this)
            have E0 := Lib.hid e0
            have E1 := Lib.hid e1
            clear e0 e1
            go_wp2
            go_roundw
            case rel => exact ⟨k + 1, us, A', c', by omega, by go_num, rfl, Ho.out, by rw [HT2.out]; exact Hh.out, Hn2.out, Hdn.out, hzr⟩
            case measure => simp [intOf]; omega
          · have e1' : ((y : Int) != (club : Int)) = true := by simpa using e1
            have HT2 : Hid (restOf club ((left.drop i).take (k + 1)) = restOf club ((left.drop i).take k) ++ [[(x : Int), (y : Int), (z : Int)]]) := Lib.hid (by have := HT.out; rwa [if_pos ⟨e0, e1⟩] at this)
            have E0 := Lib.hid e0
            have E1 := Lib.hid e1
            clear e0 e1
            have hsz0 := Hdn.out.size
            go_wp2_with (at_builtin; refine wpList_app1 rfl (.tmp 41) (.tmp 43) 23 rfl 22 (.slice none 0 0) 24 Try.underlying23 info_ints rfl w.heap.size A' c' us ?_ ?_ (.slice (some ad) 3 c2) rfl ?_ ?_ us.length ?_ ?_ ?_ ?_; exact Ho.out; exact hsz0; omega; decide; rfl; rfl; rfl; intro A2 c3 w3 ho3 hb3 hg3 hz3)
            have HN3 := Lib.hid (Hn2.out.apart hg3 Ho.out info_rows_ne hzr)
            have HB3 := Lib.hid (Hdn.out.trans hb3)
            have HH3 := Lib.hid (Hh.out.snoc (xs := [(x : Int), (y : Int), (z : Int)]) hg1' hg2 Hia.out)
            have Ho3 := Lib.hid ho3
            clear ho3
            have hz4 : w2.heap.size ≤ w3.heap.size := Nat.le_trans hzr hz3
            clear hb3 hg3 hz3
            go_wp2
            go_roundw
            case rel => exact ⟨k + 1, us ++ [.slice (some ad) 3 c2], A2, c3, by omega, by go_num, by simp, Ho3.out, by rw [HT2.out]; exact HH3.out, HN3.out, HB3.out, hz4⟩
            case measure => simp [intOf]; omega
      · obtain rfl : k = m := by omega
        have hre : (left.drop i).take k = left.drop i := List.take_of_length_le (by rw [Hml.out]; exact Nat.le_refl _)
        have HH := Lib.hid Hh.out
        rw [hre] at HH
        clear hre Hh
        obtain ⟨g1, e1, _, _, hc0, hf0⟩ := ownr Hn2.out (k := club) (x := now.getD club 0) (by rw [List.getElem?_eq_getElem hk, List.getD_eq_getElem?_getD, List.getElem?_eq_getElem hk]; rfl)
        obtain rfl : g0 = g1 := by injection e1 with e; injection e
        clear e1
        have hki : (club : Int) < (now.length : Int) := by omega
        have Ho4 := Lib.hid (Hn2.out.seti club best)
        have Hrr := Lib.hid ((Ho.out.heads (HH.out.keep (keep_of_below Hdn.out))))
        have HrO := Lib.hid Ho.out
        go_wp2
        obtain ⟨wo, hwo⟩ : ∃ wo : World, wo = wr.setCell ⟨g0, club, none⟩ (.int .i64 best) := ⟨_, rfl⟩
        rw [← hwo] at Ho4 ⊢
        have hd4 : Below w.heap.size w wo := by rw [hwo]; exact Hdn.out.setCell (p := ⟨g0, club, none⟩) hg0 _
        have hr4 : Rows wo A' (restOf club (left.drop i)) := by
          have hst : Own 22 w.heap.size wr.heap.size wo A' c' us := by
            rw [hwo]
            exact HrO.out.stay_set Hn2.out (fun e => info_rows_ne e) _ _
          exact hst.heads (HH.out.keep (keep_of_below hd4))
        have Hi4 := Lib.hid Ho4.out.ints
        have HW4 : Hid (∀ v ∈ now.set club best, 0 ≤ v ∧ v ≤ 1000) := Lib.hid (fun v hv => by
          rcases List.mem_or_eq_of_mem_set hv with hv | rfl
          · have := Hw.out v hv; omega
          · omega)
        have HG4 : Hid (Games (now.set club best).length (restOf club (left.drop i))) := Lib.hid ⟨by
          have h1 : (restOf club (left.drop i)).length ≤ (left.drop i).length := List.length_filter_le _ _
          rw [List.length_drop] at h1; omega, fun g hgm => by rw [List.length_set]; exact Hgd.out g ((List.mem_filter.1 hgm).1)⟩
        have hL4 : (now.set club best).length = now.length := List.length_set
        have Hus : Hid (us.length = (restOf club (left.drop i)).length) := Lib.hid HH.out.len
        have hpr := fun W hi hr => l14Proof_c (some ⟨g0, 0, none⟩) A' cc c' (now.set club best) (restOf club (left.drop i)) club W hi hr (by rw [hL4]; exact hn) HW4.out HG4.out (by rw [hL4]; exact hk)
        rw [hL4, ← Hus.out] at hpr
        have HP : Hid ((proofAt (now.set club best) (restOf club (left.drop i)) club ((now.set club best).getD club 0 + leftOf (club : Int) 0 (restOf club (left.drop i))) = 0) = (proofAt now (left.drop i) club best = 0)) := Lib.hid (propext (rest_proof best Hgd.out hk))
        generalize hpv : proofAt (now.set club best) (restOf club (left.drop i)) club ((now.set club best).getD club 0 + leftOf (club : Int) 0 (restOf club (left.drop i))) = pv at hpr HP
        have Hd4 := Lib.hid hd4
        have Hr4 := Lib.hid hr4
        clear hwo hd4 hr4 hpv hc0 hf0 Ho Hrr HrO Hn2 Hdn HH
        have Hpr := Lib.hid hpr
        clear hpr
        go_loopw [52] (fun j wr => ∃ (k : Nat), k ≤ now.length ∧ j = .int .i64 k ∧ Dr wo wr) (fun j _ => now.length - (intOf j).toNat)
        case atStart => exact ⟨0, Nat.zero_le _, rfl, Dr.refl _⟩
        case round =>
          obtain ⟨j, hj, rfl, hd5⟩ := hrel
          have Hd5 := Lib.hid hd5
          clear hd5
          by_cases hlt5 : j < now.length
          · obtain ⟨v, hv⟩ := some_of (l := now.set club best) (k := j) (by rw [hL4]; exact hlt5)
            obtain ⟨ad5, e5, hcv⟩ := (Hi4.out.keep Hd5.out.keep) j v hv
            have hcv' : wr.cell? ⟨g0, j, none⟩ = some (.int .i64 v) := by injection e5 with e5; subst e5; rwa [addr_zero_add] at hcv
            clear e5 hcv
            by_cases ejc : j = club
            · have e6 : ((j : Int) != (club : Int)) = false := by simp [ejc]
              have Ejc := Lib.hid ejc
              clear ejc
              clear hv
              go_wp2
              go_roundw
              case rel => exact ⟨j + 1, by omega, by go_num, Hd5.out⟩
              case measure => simp [intOf]; omega
            · have e6 : ((j : Int) != (club : Int)) = true := by simp; omega
              by_cases hvb : best < v
              · have HF : Hid (false = R) := Lib.hid (by
                  rw [← HR.out]
                  symm
                  rw [decide_eq_false_iff_not, fits_iff]
                  intro hfits
                  have h1 := fits_one Hgd.out hfits hlt5 ejc
                  rw [List.getElem?_set_ne (fun e => ejc e.symm)] at hv
                  rw [List.getD_eq_getElem?_getD, hv] at h1
                  simp at h1; omega)
                clear hv
                go_wp2
                go_ret
                exact ⟨ret_bool HF.out, Hd4.out.trans (Hd5.out.below _)⟩
              · clear hv
                go_wp2
                go_roundw
                case rel => exact ⟨j + 1, by omega, by go_num, Hd5.out⟩
                case measure => simp [intOf]; omega
          · obtain rfl : j = now.length := by omega
            have hc5 := Hpr.out wr (Hi4.out.keep Hd5.out.keep) (Hr4.out.keep Hd5.out.keep)
            have Hc5 := Lib.hid hc5
            clear hc5
            go_wp2_with fail
            refine (Hc5.out).mono ?_
            rintro e w6 ⟨rfl, hq6⟩
            go_wp2
            go_ret
            exact ⟨ret_bool (by rw [← HR.out, ← decide_eq_decide.2 (Iff.of_eq HP.out)]; rw [Bool.eq_iff_iff, beq_iff_eq, decide_eq_true_iff]; omega), Hd4.out.trans ((Hd5.out.trans hq6).below _)⟩
end Go.Proofs.Ytdgmmgaihgpccaa
