/- Contracts: MedianSums (program and reference). -/
import Derived.Test.YtehlijpjcjegcaaSumI
import Derived.Test.YtehlijpjcjegcaaIdx
namespace Go.Proofs.Ytehlijpjcjegcaa
set_option linter.unusedSimpArgs false
set_option linter.unusedVariables false
open Go.RowKit

theorem out_empty0 (TT lo : Nat) (w : World) (hlo : lo ≤ w.heap.size) : Own TT lo (w.alloc (.cells #[] TT)).heap.size (w.alloc (.cells #[] TT)) (some ⟨w.heap.size, 0, none⟩) 0 [] :=
  ⟨by simp, by unfold maxLen; omega, .inr ⟨w.heap.size, #[], rfl, hlo, by simp, heap_alloc_new w _, rfl, rfl⟩⟩
def minOf (m : Int) : List Int → Int
  | [] => m
  | x :: r => minOf (min m x) r
set_option maxHeartbeats 400000 in
theorem min_c (A : Option Addr) (c : Nat) (x : Int) (xs : List Int) (w : World) (ha : Ints w A (x :: xs)) (hm : (x :: xs).length ≤ 1048576) :
    Calls Try.prog 60 #[.slice A (x :: xs).length c] w (Quiet w (.int .i64 (minOf x xs))) := by
  generalize hR : minOf x xs = R
  have HR := Lib.hid hR
  clear hR
  obtain ⟨n, hn⟩ : ∃ n, (x :: xs).length = n := ⟨_, rfl⟩
  have hn1 : 1 ≤ n := by rw [← hn]; simp
  have hn2 : n ≤ 1048576 := by rw [← hn]; exact hm
  obtain ⟨ad, rfl, h0⟩ := ha 0 x rfl
  rw [Addr.add_zero'] at h0
  rw [hn]
  clear hm
  have HS : Hid (minOf x ((x :: xs).drop 1) = R) := Lib.hid HR.out
  have Hn := Lib.hid hn
  have Ha := Lib.hid ha
  clear hn ha
  generalize x :: xs = ys at Ha Hn HS
  go_enter Try.func60, Try.ntmps60
  go_wp2
  go_loopw [4, 3] (fun i m wr => ∃ (k : Nat) (b : Int), 1 ≤ k ∧ k ≤ n ∧ i = .int .i64 k ∧ m = .int .i64 b ∧ minOf b (ys.drop k) = R ∧ Dr w wr) (fun i _ _ => n - (intOf i).toNat)
  case atStart => exact ⟨1, x, Nat.le_refl _, hn1, rfl, rfl, HS.out, Dr.refl _⟩
  case round =>
    obtain ⟨k, b, hk1, hk, rfl, rfl, hS, hd⟩ := hrel
    have HS := Lib.hid hS
    have Hd := Lib.hid hd
    clear hS hd
    by_cases hlt : k < n
    · obtain ⟨y, hy⟩ := some_of (l := ys) (k := k) (by rw [Hn.out]; exact hlt)
      obtain ⟨ae, eae, hca⟩ := Ha.out.keep Hd.out.keep k y hy
      obtain rfl : ad = ae := by injection eae
      have HS2 : Hid (minOf (min b y) (ys.drop (k + 1)) = R) := Lib.hid (by have := HS.out; rw [drop_of hy, minOf] at this; exact this)
      have Hy := Lib.hid hy
      clear hy
      clear eae
      go_wp2
      all_goals
        go_roundw
        case rel => exact ⟨k + 1, min b y, by omega, by omega, by go_num, by go_num, HS2.out, Hd.out⟩
        case measure => simp [intOf]; omega
    · obtain rfl : k = n := by omega
      have HS2 : Hid (b = R) := Lib.hid (by have := HS.out; rwa [List.drop_of_length_le (by rw [Hn.out]; exact Nat.le_refl _), minOf] at this)
      go_wp2
      go_ret
      exact ⟨ret_int HS2.out, Hd.out⟩

/-! ### In plain Lean -/
def medL : List Int → Int
  | [] => 0
  | x :: r => if 3 ≤ r.length + 1 then (x :: r).sum - (maxOf x r + minOf x r) else (x :: r).sum
def medFold : List Int → Nat → Int → Int → Int → Int
  | [], n, s, mo, le => if 3 ≤ n then s - mo - le else s
  | p :: t, n, s, mo, le => medFold t (n + 1) (s + p) (max mo p) (if n = 0 ∨ p < le then p else le)
theorem medFold_pos : ∀ (xs : List Int) (n : Nat) (s mo le : Int), 1 ≤ n → medFold xs n s mo le = if 3 ≤ n + xs.length then s + xs.sum - maxOf mo xs - minOf le xs else s + xs.sum
  | [], n, s, mo, le, _ => by simp [medFold, maxOf, minOf]
  | p :: t, n, s, mo, le, h => by
    have e : (if n = 0 ∨ p < le then p else le) = min le p := by
      by_cases hp : p < le
      · rw [if_pos (.inr hp)]; omega
      · rw [if_neg (by omega)]; omega
    rw [medFold, medFold_pos t _ _ _ _ (by omega), e, maxOf, minOf, List.sum_cons, List.length_cons]
    simp only [show n + 1 + t.length = n + (t.length + 1) from by omega, Int.add_assoc]
theorem medFold_all (xs : List Int) (h : ∀ x ∈ xs, 0 ≤ x) : medFold xs 0 0 0 0 = medL xs := by
  cases xs with
  | nil => rfl
  | cons p t =>
    have hp := h p (by simp)
    have e : (if (0 : Nat) = 0 ∨ p < 0 then p else 0) = p := if_pos (Or.inl rfl)
    rw [medFold, e, medFold_pos t _ _ _ _ (by omega), show max 0 p = p from by omega, medL, List.sum_cons]
    simp only [show 0 + 1 + t.length = t.length + 1 from by omega, Int.zero_add]
    split
    · omega
    · rfl
def adds (P : List Int) (k : Nat) : List Res → List Int
  | [] => []
  | r :: t => (if (k : Int) = r.h then [P.getD r.a.toNat 0] else if (k : Int) = r.a then [P.getD r.h.toNat 0] else []) ++ adds P k t
theorem put1_at (xss : List (List Int)) (i k : Nat) (u : Int) {xs : List Int} (hx : xss[k]? = some xs) (hi : i < xss.length) : (put1 xss i u)[k]? = some (if i = k then xs ++ [u] else xs) := by
  rw [put1, List.getElem?_set]
  by_cases h : i = k
  · subst h
    rw [if_pos rfl, if_pos hi, if_pos rfl, List.getD_eq_getElem?_getD, hx]; rfl
  · rw [if_neg h, if_neg h, hx]
theorem addFold_at (P : List Int) (n k : Nat) : ∀ (rs : List Res) (xss : List (List Int)) (xs : List Int), xss.length = n → xss[k]? = some xs → (∀ r ∈ rs, resOk n r = true) → (addFold fOpp P xss rs)[k]? = some (xs ++ adds P k rs)
  | [], xss, xs, _, hx, _ => by simpa [addFold, adds] using hx
  | r :: t, xss, xs, hl, hx, hok => by
    have hr := resOk_of (hok r (by simp))
    have h0 := hr.h0; have hn := hr.hn; have a0 := hr.a0; have an := hr.an
    have hne := hr.ne
    have h1 := put1_at xss r.h.toNat k (fOpp r r.h (P.getD r.a.toNat 0)) hx (by omega)
    have h2 := put1_at _ r.a.toNat k (fOpp r r.a (P.getD r.h.toNat 0)) h1 (by rw [put1_len]; omega)
    have ih := addFold_at P n k t _ _ (by rw [put1_len, put1_len]; exact hl) h2 (fun r' hr' => hok r' (by simp [hr']))
    rw [addFold, addStep, ih, adds]
    by_cases e1 : (k : Int) = r.h
    · have c1 : r.h.toNat = k := by omega
      have c2 : ¬ r.a.toNat = k := by omega
      rw [if_neg c2, if_pos c1, if_pos e1, fOpp, List.append_assoc]
    · have c1 : ¬ r.h.toNat = k := by omega
      by_cases e2 : (k : Int) = r.a
      · have c2 : r.a.toNat = k := by omega
        rw [if_pos c2, if_neg c1, if_neg e1, if_pos e2, fOpp, List.append_assoc]
      · have c2 : ¬ r.a.toNat = k := by omega
        rw [if_neg c2, if_neg c1, if_neg e1, if_neg e2, List.nil_append]
def medF (n : Int) (rs : List Res) : List Int := if leagueOk n rs = true then (List.range n.toNat).map (fun k => medFold (adds (pointsF n.toNat rs) k rs) 0 0 0 0) else []
theorem adds_bd {P : List Int} (hP : ∀ k, 0 ≤ P.getD k 0 ∧ P.getD k 0 ≤ 180) (k : Nat) : ∀ (rs : List Res), ∀ x ∈ adds P k rs, 0 ≤ x
  | [], x, h => by simp [adds] at h
  | r :: t, x, h => by
    rw [adds, List.mem_append] at h
    rcases h with h | h
    · repeat' split at h
      · rw [List.mem_singleton] at h; subst h; exact (hP _).1
      · rw [List.mem_singleton] at h; subst h; exact (hP _).1
      · simp at h
    · exact adds_bd hP k t x h
theorem addends_med {n : Nat} {rs : List Res} (hok : leagueOk n rs = true) : (addendsF fOpp n rs).map medL = medF n rs := by
  have hL := league_of hok
  rw [medF, if_pos hok]
  apply List.ext_getElem?
  intro k
  rw [List.getElem?_map, List.getElem?_map, Int.toNat_natCast]
  by_cases hk : k < n
  · rw [List.getElem?_range hk, addendsF, addFold_at (pointsF n rs) n k rs _ [] (by simp) (by simp [hk]) hL.ok]
    simp only [Option.map_some, List.nil_append]
    rw [medFold_all _ (adds_bd (pointsF_get hL) k rs)]
  · rw [List.getElem?_eq_none (by rw [addendsF_len]; omega), List.getElem?_eq_none (by simp; omega)]; rfl
theorem minOf_mem : ∀ (r : List Int) (m : Int), minOf m r = m ∨ minOf m r ∈ r
  | [], m => .inl rfl
  | x :: r, m => by
    rw [minOf]
    rcases minOf_mem r (min m x) with h | h
    · rcases Int.le_total m x with h2 | h2
      · rw [h, Int.min_eq_left h2]; exact .inl rfl
      · rw [h, Int.min_eq_right h2]; exact .inr (by simp)
    · exact .inr (by simp [h])

set_option maxRecDepth 100000 in
set_option maxHeartbeats 4000000 in
theorem iMedianSums_c (n : Int) (A : Option Addr) (c : Nat) (rs : List Res) (w : World) (ha : Games w A rs) (hm : rs.length ≤ 1048576) :
    Calls Try.prog 27 #[lgv n A rs.length c] w (GivesI 3 w (medF n rs)) := by
  have hb1 : Below w.heap.size w (w.alloc (.cells #[.int .i64 n, .slice A rs.length c] 29)) := (Below.refl _ _).alloc (Nat.le_refl _) _
  cases hok : leagueOk n rs
  · have hv : medF n rs = [] := by rw [medF, if_neg (by simp [hok])]
    rw [hv]
    have hac := fun W (h : Games W A rs) => addends_no 58 n A c rs W h hm hok
    unfold lgv at hac ⊢
    have Ha := Lib.hid ha
    have Hac := Lib.hid hac
    have Hb1 := Lib.hid hb1
    have Hok := Lib.hid hok
    clear ha hac hb1 hok
    clear hv
    go_enter Try.func27, Try.ntmps27
    go_wp2_with fail
    refine (Hac.out _ (Ha.out.keep (keep_of_below Hb1.out))).mono ?_
    rintro e w1 ⟨rfl, hb⟩
    have Hb := Lib.hid (Hb1.out.trans (hb.mono Hb1.out.size))
    clear hb
    go_wp2
    go_loopw [10, 3] (fun i v wr => i = .int .i64 0 ∧ v = .slice none 0 0 ∧ wr = w1) (fun i _ _ => 0)
    case atStart => exact ⟨rfl, rfl, rfl⟩
    case round =>
      obtain ⟨rfl, rfl, rfl⟩ := hrel
      go_wp2
      go_ret
      exact ⟨none, 0, rfl, Own.nil .., Hb.out⟩
  · have hL := league_of hok
    obtain ⟨n, rfl⟩ := Int.eq_ofNat_of_zero_le (show 0 ≤ n by have := hL.two; omega)
    have hn8 : n ≤ 8 := by have := hL.eight; omega
    have hac := fun W (h : Games W A rs) => addends_c fOpp 58 n A c rs W h hok (enters_of Try.func58 (by kernel_rfl) rfl) (fun W' r k p _ _ h1 h2 => med1_c W' r k p)
    have hV := addends_med hok
    rw [← hV]
    have hrb := addendsF_rb fOpp_bd hL
    have hal := addendsF_len fOpp n rs
    generalize addendsF fOpp n rs = xss at hac hrb hal
    unfold lgv at hac ⊢
    have hsl : (xss.map medL).length = n := by rw [List.length_map]; exact hal
    have hsa : ∀ (k : Nat) (xs : List Int), xss[k]? = some xs → (xss.map medL)[k]? = some (medL xs) := fun k xs h => map_some h
    generalize xss.map medL = S at hsl hsa
    have Ha := Lib.hid ha
    have Hac := Lib.hid hac
    have Hb1 := Lib.hid hb1
    have Hok := Lib.hid hok
    have HL := Lib.hid hL
    have Hrb := Lib.hid hrb
    have Hal := Lib.hid hal
    have Hsl := Lib.hid hsl
    have Hsa := Lib.hid hsa
    clear ha hac hb1 hok hL hrb hal hsl hsa
    clear hV
    go_enter Try.func27, Try.ntmps27
    go_wp2_with fail
    refine (Hac.out _ (Ha.out.keep (keep_of_below Hb1.out))).mono ?_
    rintro e w2 ⟨B0, d0, rfl, ho, hb⟩
    rw [Hal.out]
    have Hb2 := Lib.hid (Hb1.out.trans (hb.mono Hb1.out.size))
    have Hr := Lib.hid ho.rows
    clear ho hb
    go_wp2
    go_loopw [10, 3] (fun i v wr => ∃ (k : Nat) (B : Option Addr) (d : Nat), k ≤ n ∧ i = .int .i64 k ∧ v = .slice B k d ∧ Own 3 w2.heap.size wr.heap.size wr B d ((S.map (Value.int .i64)).take k) ∧ Below w2.heap.size w2 wr) (fun i _ _ => n - (intOf i).toNat)
    case atStart => exact ⟨0, none, 0, Nat.zero_le _, rfl, rfl, by simpa using Own.nil .., Below.refl _ _⟩
    case round =>
      obtain ⟨k, B, d, hk, rfl, rfl, ho, hd⟩ := hrel
      have Ho := Lib.hid ho
      have Hd := Lib.hid hd
      clear ho hd
      by_cases hlt : k < n
      · have hki : (k : Int) < (n : Int) := by omega
        obtain ⟨xs, hx⟩ := some_of (l := xss) (k := k) (by rw [Hal.out]; exact hlt)
        obtain ⟨hxl, hxb⟩ := Hrb.out xs (List.mem_of_getElem? hx)
        obtain ⟨ad, a, c', rfl, hcl, hcm, hca, hia⟩ := (Hr.out.keep (keep_of_below Hd.out)) k xs hx
        have hS := Hsa.out k xs hx
        have hl : ((S.map (Value.int .i64)).take k).length = k := by rw [List.length_take, List.length_map, Hsl.out]; omega
        have hsc := sumOf_c a c' xs wr hia (by omega) (fun x hx => by have := hxb x hx; omega)
        have hsb := sum_bd (b := 360) xs hxb
        obtain ⟨t, ht⟩ : ∃ s, xs.sum = s := ⟨_, rfl⟩
        rw [ht] at hsc hsb
        by_cases h3 : 3 ≤ xs.length
        · cases xs with
          | nil => simp at h3
          | cons x0 r0 =>
            have hmx := fun W (h : Ints W a (x0 :: r0)) => max_c a c' x0 r0 W h (by omega)
            have hmn := fun W (h : Ints W a (x0 :: r0)) => min_c a c' x0 r0 W h (by omega)
            have hS2 : medL (x0 :: r0) = t - (maxOf x0 r0 + minOf x0 r0) := by rw [medL, if_pos (by simpa using h3), ht]
            have hmb := maxOf_mem r0 x0
            have hnb := minOf_mem r0 x0
            have bM : 0 ≤ maxOf x0 r0 ∧ maxOf x0 r0 ≤ 360 := hxb _ (by rcases hmb with h | h <;> simp [h])
            have bN : 0 ≤ minOf x0 r0 ∧ minOf x0 r0 ≤ 360 := hxb _ (by rcases hnb with h | h <;> simp [h])
            generalize maxOf x0 r0 = M at hmx hS2 bM hmb
            generalize minOf x0 r0 = N at hmn hS2 bN hnb
            obtain ⟨s, hs⟩ : ∃ s, t - (M + N) = s := ⟨_, rfl⟩
            rw [hS2, hs] at hS
            obtain ⟨L, hL'⟩ : ∃ L, (x0 :: r0).length = L := ⟨_, rfl⟩
            rw [hL'] at hsc hmx hmn hca h3 hxl hsb
            have hM0 := bM.1
            have hM1 := bM.2
            have hN0 := bN.1
            have hN1 := bN.2
            have hsb0 := hsb.1
            have hsb1 := hsb.2
            have hL120 : L ≤ 120 := hxl
            have e1 : IntKind.i64.wrap (M + N) = M + N := IntWalk.i64_in _ (by omega)
            have e2 : IntKind.i64.wrap (t - (M + N)) = s := by rw [hs]; exact IntWalk.i64_in _ (by omega)
            have h3i : (3 : Int) ≤ (L : Int) := by omega
            have Hx := Lib.hid hx
            have Hxb := Lib.hid hxb
            have Hia := Lib.hid hia
            have HS := Lib.hid hS
            have Hl := Lib.hid hl
            have Hsc := Lib.hid hsc
            have Ht := Lib.hid ht
            have Hmx := Lib.hid hmx
            have Hmn := Lib.hid hmn
            have Hs := Lib.hid hs
            have HL' := Lib.hid hL'
            have Hcl := Lib.hid hcl
            have Hcm := Lib.hid hcm
            have HS2 := Lib.hid hS2
            clear hx hxb hia hS hl hsc ht hmx hmn hs hL' hcl hcm hS2
            clear bM bN hsb hmb hnb
            go_wp2_with fail
            refine Hsc.out.mono ?_
            rintro e w4 ⟨rfl, hq⟩
            have Hi4 := Lib.hid (Hia.out.keep hq.keep)
            have Hq4 := Lib.hid hq
            clear hq
            go_wp2_with fail
            refine (Hmx.out _ Hi4.out).mono ?_
            rintro e w5 ⟨rfl, hq⟩
            have Hi5 := Lib.hid (Hi4.out.keep hq.keep)
            have Hq5 := Lib.hid (Hq4.out.trans hq)
            clear hq
            go_wp2_with fail
            refine (Hmn.out _ Hi5.out).mono ?_
            rintro e w6 ⟨rfl, hq⟩
            have Hq := Lib.hid ((Hq5.out.trans hq).below wr.heap.size)
            clear hq
            go_wp2_with (at_builtin; refine wpList_app1 rfl (.tmp 26) (.tmp 28) 33 rfl 3 (.int .i64 0) 8 Try.underlying33 info_int rfl w2.heap.size B d ((S.map (Value.int .i64)).take k) ?_ ?_ (.int .i64 s) rfl ?_ ?_ k ?_ ?_ ?_ ?_; exact (Ho.out.below Hq.out).wide (Nat.le_refl _) Hq.out.size; exact Nat.le_trans Hd.out.size Hq.out.size; (rw [Hl.out]; omega); decide; exact Hl.out.symm; rfl; rfl; intro B2 d2 w' ho' hb' _ _; have Ho' := Lib.hid ho'; have Hb' := Lib.hid hb'; clear ho' hb')
            go_wp2
            go_roundw
            case rel => exact ⟨k + 1, B2, d2, by omega, by go_num, rfl, by rw [take_of (map_some HS.out)]; exact Ho'.out, (Hd.out.trans (Hq.out.mono Hd.out.size)).trans Hb'.out⟩
            case measure => simp [intOf]; omega
        · have hS2 : medL xs = t := by
            cases xs with
            | nil => rw [← ht]; rfl
            | cons x0 r0 => rw [medL, if_neg (by simpa using h3), ht]
          obtain ⟨L, hL'⟩ : ∃ L, xs.length = L := ⟨_, rfl⟩
          rw [hS2] at hS
          rw [hL'] at hsc hca h3 hxl
          have h3i : ¬ (3 : Int) ≤ (L : Int) := by omega
          have Hx := Lib.hid hx
          have Hxb := Lib.hid hxb
          have Hia := Lib.hid hia
          have HS := Lib.hid hS
          have Hl := Lib.hid hl
          have Hsc := Lib.hid hsc
          have Ht := Lib.hid ht
          have HL' := Lib.hid hL'
          have Hcl := Lib.hid hcl
          have Hcm := Lib.hid hcm
          have HS2 := Lib.hid hS2
          have Hsb := Lib.hid hsb
          clear hx hxb hia hS hl hsc ht hL' hcl hcm hS2 hsb
          go_wp2_with (first
            | (refine Hsc.out.mono ?_; rintro e w4 ⟨rfl, hq⟩; have Hq := Lib.hid (hq.below wr.heap.size); clear hq)
            | (at_builtin; refine wpList_app1 rfl (.tmp 26) (.tmp 28) 33 rfl 3 (.int .i64 0) 8 Try.underlying33 info_int rfl w2.heap.size B d ((S.map (Value.int .i64)).take k) ?_ ?_ (.int .i64 t) rfl ?_ ?_ k ?_ ?_ ?_ ?_; exact (Ho.out.below Hq.out).wide (Nat.le_refl _) Hq.out.size; exact Nat.le_trans Hd.out.size Hq.out.size; (rw [Hl.out]; omega); decide; exact Hl.out.symm; rfl; rfl; intro B2 d2 w' ho' hb' _ _; have Ho' := Lib.hid ho'; have Hb' := Lib.hid hb'; clear ho' hb'))
          go_wp2
          go_roundw
          case rel => exact ⟨k + 1, B2, d2, by omega, by go_num, rfl, by rw [take_of (map_some HS.out)]; exact Ho'.out, (Hd.out.trans (Hq.out.mono Hd.out.size)).trans Hb'.out⟩
          case measure => simp [intOf]; omega
      · obtain rfl : k = n := by omega
        have ho3 := Ho.out
        rw [List.take_of_length_le (by rw [List.length_map, Hsl.out]; exact Nat.le_refl _)] at ho3
        have Ho3 := Lib.hid ho3
        clear ho3
        go_wp2
        go_ret
        exact ⟨B, d, by rw [Hsl.out]; rfl, Ho3.out.wide Hb2.out.size (Nat.le_refl _), Hb2.out.trans (Hd.out.mono Hb2.out.size)⟩


end Go.Proofs.Ytehlijpjcjegcaa
