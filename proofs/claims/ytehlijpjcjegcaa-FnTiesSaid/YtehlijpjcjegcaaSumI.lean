/- Contracts: OpponentSums and WeightedSums (program). -/
import Derived.Test.YtehlijpjcjegcaaSumS
namespace Go.Proofs.Ytehlijpjcjegcaa
set_option linter.unusedSimpArgs false
set_option linter.unusedVariables false
open Go.RowKit

def RB (b : Nat) (V : Int) (xss : List (List Int)) : Prop := ∀ xs ∈ xss, xs.length ≤ b ∧ ∀ x ∈ xs, 0 ≤ x ∧ x ≤ V
theorem RB.put {b : Nat} {V : Int} {xss : List (List Int)} (h : RB b V xss) {k : Nat} {u : Int} (h0 : 0 ≤ u) (h1 : u ≤ V) : RB (b + 1) V (put1 xss k u) := fun ys hy => by
  rcases List.mem_or_eq_of_mem_set hy with hy | rfl
  · obtain ⟨a1, a2⟩ := h ys hy
    exact ⟨by omega, a2⟩
  · cases hx : xss[k]? with
    | none =>
      rw [List.getD_eq_getElem?_getD, hx]
      exact ⟨by simp, fun x hx => by simp at hx; omega⟩
    | some xs =>
      obtain ⟨a1, a2⟩ := h xs (List.mem_of_getElem? hx)
      rw [List.getD_eq_getElem?_getD, hx]
      refine ⟨by simp; omega, fun x hx => ?_⟩
      simp only [Option.getD_some, List.mem_append, List.mem_singleton] at hx
      rcases hx with hx | rfl
      · exact a2 x hx
      · exact ⟨h0, h1⟩
theorem addFold_rb {f : Res → Int → Int → Int} {P : List Int} {V : Int} (hP : ∀ k, 0 ≤ P.getD k 0 ∧ P.getD k 0 ≤ 180) (hf : ∀ r k p, 0 ≤ p → p ≤ 180 → 0 ≤ f r k p ∧ f r k p ≤ V) :
    ∀ (rs : List Res) (xss : List (List Int)) (b : Nat), RB b V xss → RB (b + 2 * rs.length) V (addFold f P xss rs)
  | [], xss, b, h => by simpa [addFold] using h
  | r :: t, xss, b, h => by
    have h1 := hf r r.h _ (hP r.a.toNat).1 (hP r.a.toNat).2
    have h2 := hf r r.a _ (hP r.h.toNat).1 (hP r.h.toNat).2
    have h3 := (h.put (k := r.h.toNat) h1.1 h1.2).put (k := r.a.toNat) h2.1 h2.2
    have := addFold_rb hP hf t _ _ h3
    rw [addFold, List.length_cons, show b + 2 * (t.length + 1) = b + 1 + 1 + 2 * t.length from by omega]
    exact this
theorem pointsF_get {n : Nat} {rs : List Res} (hL : League n rs) (k : Nat) : 0 ≤ (pointsF n rs).getD k 0 ∧ (pointsF n rs).getD k 0 ≤ 180 := by
  have hb := ptFold_bnd rs _ 0 (bnd_zeros n 0 (Int.le_refl _)) hL.ok
  have hf := hL.few
  rw [show ptFold (List.replicate n 0) rs = pointsF n rs from rfl] at hb
  rw [List.getD_eq_getElem?_getD]
  cases hx : (pointsF n rs)[k]? with
  | none => simp
  | some x => have := hb.bd x (List.mem_of_getElem? hx); simp; omega
theorem addFold_len (f : Res → Int → Int → Int) (P : List Int) : ∀ (rs : List Res) (xss : List (List Int)), (addFold f P xss rs).length = xss.length
  | [], _ => rfl
  | r :: t, xss => by rw [addFold, addFold_len f P t, addStep, put1_len, put1_len]
theorem addendsF_len (f : Res → Int → Int → Int) (n : Nat) (rs : List Res) : (addendsF f n rs).length = n := by rw [addendsF, addFold_len]; simp
theorem addendsF_rb {f : Res → Int → Int → Int} {V : Int} (hf : ∀ r k p, 0 ≤ p → p ≤ 180 → 0 ≤ f r k p ∧ f r k p ≤ V) {n : Nat} {rs : List Res} (hL : League n rs) : RB 120 V (addendsF f n rs) := by
  have h := addFold_rb (pointsF_get hL) hf rs (List.replicate n []) 0 (fun xs hx => by rw [List.mem_replicate] at hx; rw [hx.2]; simp)
  have hl := hL.few
  exact fun xs hx => ⟨by have := (h xs hx).1; omega, (h xs hx).2⟩
theorem fOpp_bd : ∀ (r : Res) (k p : Int), 0 ≤ p → p ≤ 180 → 0 ≤ fOpp r k p ∧ fOpp r k p ≤ 360 := fun r k p h1 h2 => by unfold fOpp; omega
theorem fWei_bd : ∀ (r : Res) (k p : Int), 0 ≤ p → p ≤ 180 → 0 ≤ fWei r k p ∧ fWei r k p ≤ 360 := fun r k p h1 h2 => by
  have := outF_bd r.h r.g r.t k
  exact wei_bd h1 h2 this.1 this.2
theorem pts3_bd (o : Int) : 0 ≤ pts3 o ∧ pts3 o ≤ 3 := by unfold pts3; split <;> (try split) <;> omega
theorem fPro_bd : ∀ (r : Res) (k p : Int), 0 ≤ p → p ≤ 180 → 0 ≤ fPro r k p ∧ fPro r k p ≤ 3 := fun r k p _ _ => pts3_bd _


set_option maxRecDepth 100000 in
set_option maxHeartbeats 4000000 in
theorem iOpponentSums_c (n : Int) (A : Option Addr) (c : Nat) (rs : List Res) (w : World) (ha : Games w A rs) (hm : rs.length ≤ 1048576) :
    Calls Try.prog 23 #[lgv n A rs.length c] w (GivesI 3 w (sumsF fOpp n rs)) := by
  have hb1 : Below w.heap.size w (w.alloc (.cells #[.int .i64 n, .slice A rs.length c] 29)) := (Below.refl _ _).alloc (Nat.le_refl _) _
  cases hok : leagueOk n rs
  · have hv : sumsF fOpp n rs = [] := by rw [sumsF, if_neg (by simp [hok])]
    rw [hv]
    have hac := fun W (h : Games W A rs) => addends_no 55 n A c rs W h hm hok
    unfold lgv at hac ⊢
    have Ha := Lib.hid ha
    have Hac := Lib.hid hac
    have Hb1 := Lib.hid hb1
    have Hok := Lib.hid hok
    clear ha hac hb1 hok
    clear hv
    go_enter Try.func23, Try.ntmps23
    go_wp2_with fail
    refine (Hac.out _ (Ha.out.keep (keep_of_below Hb1.out))).mono ?_
    rintro e w1 ⟨rfl, hb⟩
    have Hb := Lib.hid (Hb1.out.trans (hb.mono Hb1.out.size))
    clear hb
    go_wp2
    go_loopw [9, 3] (fun i v wr => i = .int .i64 0 ∧ v = .slice none 0 0 ∧ wr = w1) (fun i _ _ => 0)
    case atStart => exact ⟨rfl, rfl, rfl⟩
    case round =>
      obtain ⟨rfl, rfl, rfl⟩ := hrel
      go_wp2
      go_ret
      exact ⟨none, 0, rfl, Own.nil .., Hb.out⟩
  · have hL := league_of hok
    obtain ⟨n, rfl⟩ := Int.eq_ofNat_of_zero_le (show 0 ≤ n by have := hL.two; omega)
    have hn8 : n ≤ 8 := by have := hL.eight; omega
    have hac := fun W (h : Games W A rs) => addends_c fOpp 55 n A c rs W h hok (enters_of Try.func55 (by kernel_rfl) rfl) (fun W' r k p _ _ h1 h2 => opp1_c W' r k p)
    have hV := addends_sum fOpp hok
    rw [← hV]
    have hrb := addendsF_rb fOpp_bd hL
    have hal := addendsF_len fOpp n rs
    generalize addendsF fOpp n rs = xss at hac hrb hal
    unfold lgv at hac ⊢
    have hsl : (xss.map List.sum).length = n := by rw [List.length_map]; exact hal
    have hsa : ∀ (k : Nat) (xs : List Int), xss[k]? = some xs → (xss.map List.sum)[k]? = some xs.sum := fun k xs h => map_some h
    generalize xss.map List.sum = S at hsl hsa
    have Ha := Lib.hid ha
    have Hac := Lib.hid hac
    have Hb1 := Lib.hid hb1
    have Hok := Lib.hid hok
    have HL := Lib.hid hL
    have Hrb := Lib.hid hrb
    have Hal := Lib.hid hal
    have Hsl := Lib.hid hsl
    have Hsa := Lib.hid hsa
    clear ha hac hb1 hok hL hrb hal hsl hsa
    clear hV
    go_enter Try.func23, Try.ntmps23
    go_wp2_with fail
    refine (Hac.out _ (Ha.out.keep (keep_of_below Hb1.out))).mono ?_
    rintro e w2 ⟨B0, d0, rfl, ho, hb⟩
    rw [Hal.out]
    have Hb2 := Lib.hid (Hb1.out.trans (hb.mono Hb1.out.size))
    have Hr := Lib.hid ho.rows
    clear ho hb
    go_wp2
    go_loopw [9, 3] (fun i v wr => ∃ (k : Nat) (B : Option Addr) (d : Nat), k ≤ n ∧ i = .int .i64 k ∧ v = .slice B k d ∧ Own 3 w2.heap.size wr.heap.size wr B d ((S.map (Value.int .i64)).take k) ∧ Below w2.heap.size w2 wr) (fun i _ _ => n - (intOf i).toNat)
    case atStart => exact ⟨0, none, 0, Nat.zero_le _, rfl, rfl, by simpa using Own.nil .., Below.refl _ _⟩
    case round =>
      obtain ⟨k, B, d, hk, rfl, rfl, ho, hd⟩ := hrel
      have Ho := Lib.hid ho
      have Hd := Lib.hid hd
      clear ho hd
      by_cases hlt : k < n
      · have hki : (k : Int) < (n : Int) := by omega
        obtain ⟨xs, hx⟩ := some_of (l := xss) (k := k) (by rw [Hal.out]; exact hlt)
        obtain ⟨hxl, hxb⟩ := Hrb.out xs (List.mem_of_getElem? hx)
        obtain ⟨ad, a, c', rfl, _, _, hca, hia⟩ := (Hr.out.keep (keep_of_below Hd.out)) k xs hx
        have hS := Hsa.out k xs hx
        have hl : ((S.map (Value.int .i64)).take k).length = k := by rw [List.length_take, List.length_map, Hsl.out]; omega
        have hsc := sumOf_c a c' xs wr hia (by omega) (fun x hx => by have := hxb x hx; omega)
        obtain ⟨s, hs⟩ : ∃ s, xs.sum = s := ⟨_, rfl⟩
        rw [hs] at hsc hS
        have Hx := Lib.hid hx
        have Hxb := Lib.hid hxb
        have Hia := Lib.hid hia
        have HS := Lib.hid hS
        have Hl := Lib.hid hl
        have Hsc := Lib.hid hsc
        have Hs := Lib.hid hs
        clear hx hxb hia hS hl hsc hs
        go_wp2_with (first
          | (refine Hsc.out.mono ?_; rintro e w4 ⟨rfl, hq⟩; have Hq := Lib.hid (hq.below wr.heap.size); clear hq)
          | (at_builtin; refine wpList_app1 rfl (.tmp 13) (.tmp 16) 33 rfl 3 (.int .i64 0) 8 Try.underlying33 info_int rfl w2.heap.size B d ((S.map (Value.int .i64)).take k) ?_ ?_ (.int .i64 s) rfl ?_ ?_ k ?_ ?_ ?_ ?_; exact (Ho.out.below Hq.out).wide (Nat.le_refl _) Hq.out.size; exact Nat.le_trans Hd.out.size Hq.out.size; (rw [Hl.out]; omega); decide; exact Hl.out.symm; rfl; rfl; intro B2 d2 w' ho' hb' _ _; have Ho' := Lib.hid ho'; have Hb' := Lib.hid hb'; clear ho' hb'))
        go_wp2
        go_roundw
        case rel => exact ⟨k + 1, B2, d2, by omega, by go_num, rfl, by rw [take_of (map_some HS.out)]; exact Ho'.out, (Hd.out.trans (Hq.out.mono Hd.out.size)).trans Hb'.out⟩
        case measure => simp [intOf]; omega
      · obtain rfl : k = n := by omega
        have ho3 := Ho.out
        rw [List.take_of_length_le (by rw [List.length_map, Hsl.out]; exact Nat.le_refl _)] at ho3
        have Ho3 := Lib.hid ho3
        clear ho3
        go_wp2
        go_ret
        exact ⟨B, d, by rw [Hsl.out]; rfl, Ho3.out.wide Hb2.out.size (Nat.le_refl _), Hb2.out.trans (Hd.out.mono Hb2.out.size)⟩

set_option maxRecDepth 100000 in
set_option maxHeartbeats 4000000 in
theorem iWeightedSums_c (n : Int) (A : Option Addr) (c : Nat) (rs : List Res) (w : World) (ha : Games w A rs) (hm : rs.length ≤ 1048576) :
    Calls Try.prog 25 #[lgv n A rs.length c] w (GivesI 3 w (sumsF fWei n rs)) := by
  have hb1 : Below w.heap.size w (w.alloc (.cells #[.int .i64 n, .slice A rs.length c] 29)) := (Below.refl _ _).alloc (Nat.le_refl _) _
  cases hok : leagueOk n rs
  · have hv : sumsF fWei n rs = [] := by rw [sumsF, if_neg (by simp [hok])]
    rw [hv]
    have hac := fun W (h : Games W A rs) => addends_no 56 n A c rs W h hm hok
    unfold lgv at hac ⊢
    have Ha := Lib.hid ha
    have Hac := Lib.hid hac
    have Hb1 := Lib.hid hb1
    have Hok := Lib.hid hok
    clear ha hac hb1 hok
    clear hv
    go_enter Try.func25, Try.ntmps25
    go_wp2_with fail
    refine (Hac.out _ (Ha.out.keep (keep_of_below Hb1.out))).mono ?_
    rintro e w1 ⟨rfl, hb⟩
    have Hb := Lib.hid (Hb1.out.trans (hb.mono Hb1.out.size))
    clear hb
    go_wp2
    go_loopw [9, 3] (fun i v wr => i = .int .i64 0 ∧ v = .slice none 0 0 ∧ wr = w1) (fun i _ _ => 0)
    case atStart => exact ⟨rfl, rfl, rfl⟩
    case round =>
      obtain ⟨rfl, rfl, rfl⟩ := hrel
      go_wp2
      go_ret
      exact ⟨none, 0, rfl, Own.nil .., Hb.out⟩
  · have hL := league_of hok
    obtain ⟨n, rfl⟩ := Int.eq_ofNat_of_zero_le (show 0 ≤ n by have := hL.two; omega)
    have hn8 : n ≤ 8 := by have := hL.eight; omega
    have hac := fun W (h : Games W A rs) => addends_c fWei 56 n A c rs W h hok (enters_of Try.func56 (by kernel_rfl) rfl) (fun W' r k p _ _ h1 h2 => wei1_c W' r k p h1 h2)
    have hV := addends_sum fWei hok
    rw [← hV]
    have hrb := addendsF_rb fWei_bd hL
    have hal := addendsF_len fWei n rs
    generalize addendsF fWei n rs = xss at hac hrb hal
    unfold lgv at hac ⊢
    have hsl : (xss.map List.sum).length = n := by rw [List.length_map]; exact hal
    have hsa : ∀ (k : Nat) (xs : List Int), xss[k]? = some xs → (xss.map List.sum)[k]? = some xs.sum := fun k xs h => map_some h
    generalize xss.map List.sum = S at hsl hsa
    have Ha := Lib.hid ha
    have Hac := Lib.hid hac
    have Hb1 := Lib.hid hb1
    have Hok := Lib.hid hok
    have HL := Lib.hid hL
    have Hrb := Lib.hid hrb
    have Hal := Lib.hid hal
    have Hsl := Lib.hid hsl
    have Hsa := Lib.hid hsa
    clear ha hac hb1 hok hL hrb hal hsl hsa
    clear hV
    go_enter Try.func25, Try.ntmps25
    go_wp2_with fail
    refine (Hac.out _ (Ha.out.keep (keep_of_below Hb1.out))).mono ?_
    rintro e w2 ⟨B0, d0, rfl, ho, hb⟩
    rw [Hal.out]
    have Hb2 := Lib.hid (Hb1.out.trans (hb.mono Hb1.out.size))
    have Hr := Lib.hid ho.rows
    clear ho hb
    go_wp2
    go_loopw [9, 3] (fun i v wr => ∃ (k : Nat) (B : Option Addr) (d : Nat), k ≤ n ∧ i = .int .i64 k ∧ v = .slice B k d ∧ Own 3 w2.heap.size wr.heap.size wr B d ((S.map (Value.int .i64)).take k) ∧ Below w2.heap.size w2 wr) (fun i _ _ => n - (intOf i).toNat)
    case atStart => exact ⟨0, none, 0, Nat.zero_le _, rfl, rfl, by simpa using Own.nil .., Below.refl _ _⟩
    case round =>
      obtain ⟨k, B, d, hk, rfl, rfl, ho, hd⟩ := hrel
      have Ho := Lib.hid ho
      have Hd := Lib.hid hd
      clear ho hd
      by_cases hlt : k < n
      · have hki : (k : Int) < (n : Int) := by omega
        obtain ⟨xs, hx⟩ := some_of (l := xss) (k := k) (by rw [Hal.out]; exact hlt)
        obtain ⟨hxl, hxb⟩ := Hrb.out xs (List.mem_of_getElem? hx)
        obtain ⟨ad, a, c', rfl, _, _, hca, hia⟩ := (Hr.out.keep (keep_of_below Hd.out)) k xs hx
        have hS := Hsa.out k xs hx
        have hl : ((S.map (Value.int .i64)).take k).length = k := by rw [List.length_take, List.length_map, Hsl.out]; omega
        have hsc := sumOf_c a c' xs wr hia (by omega) (fun x hx => by have := hxb x hx; omega)
        obtain ⟨s, hs⟩ : ∃ s, xs.sum = s := ⟨_, rfl⟩
        rw [hs] at hsc hS
        have Hx := Lib.hid hx
        have Hxb := Lib.hid hxb
        have Hia := Lib.hid hia
        have HS := Lib.hid hS
        have Hl := Lib.hid hl
        have Hsc := Lib.hid hsc
        have Hs := Lib.hid hs
        clear hx hxb hia hS hl hsc hs
        go_wp2_with (first
          | (refine Hsc.out.mono ?_; rintro e w4 ⟨rfl, hq⟩; have Hq := Lib.hid (hq.below wr.heap.size); clear hq)
          | (at_builtin; refine wpList_app1 rfl (.tmp 13) (.tmp 16) 33 rfl 3 (.int .i64 0) 8 Try.underlying33 info_int rfl w2.heap.size B d ((S.map (Value.int .i64)).take k) ?_ ?_ (.int .i64 s) rfl ?_ ?_ k ?_ ?_ ?_ ?_; exact (Ho.out.below Hq.out).wide (Nat.le_refl _) Hq.out.size; exact Nat.le_trans Hd.out.size Hq.out.size; (rw [Hl.out]; omega); decide; exact Hl.out.symm; rfl; rfl; intro B2 d2 w' ho' hb' _ _; have Ho' := Lib.hid ho'; have Hb' := Lib.hid hb'; clear ho' hb'))
        go_wp2
        go_roundw
        case rel => exact ⟨k + 1, B2, d2, by omega, by go_num, rfl, by rw [take_of (map_some HS.out)]; exact Ho'.out, (Hd.out.trans (Hq.out.mono Hd.out.size)).trans Hb'.out⟩
        case measure => simp [intOf]; omega
      · obtain rfl : k = n := by omega
        have ho3 := Ho.out
        rw [List.take_of_length_le (by rw [List.length_map, Hsl.out]; exact Nat.le_refl _)] at ho3
        have Ho3 := Lib.hid ho3
        clear ho3
        go_wp2
        go_ret
        exact ⟨B, d, by rw [Hsl.out]; rfl, Ho3.out.wide Hb2.out.size (Nat.le_refl _), Hb2.out.trans (Hd.out.mono Hb2.out.size)⟩

end Go.Proofs.Ytehlijpjcjegcaa
