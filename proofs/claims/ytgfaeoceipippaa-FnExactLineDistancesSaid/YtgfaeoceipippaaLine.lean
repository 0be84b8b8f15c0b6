/- Contracts: the distances of places on a line (program and reference). -/
import Derived.Test.YtgfaeoceipippaaClubs
import Derived.Test.YtgfaeoceipippaaScan
import Derived.Test.YtgfaeoceipippaaBase3
import Derived.Test.YtgfaeoceipippaaOpen
namespace Go.Proofs.Ytgfaeoceipippaa
open Go.RowKit

theorem info_rows_ne2 : (3 : TypeId) ≠ 22 := by decide
def lineRow (ps : List Int) (x : Int) : List Int := ps.map fun y => max (x - y) (y - x)
def lineP (ps : List Int) : List (List Int) := ps.map (lineRow ps)
def lineOk (ps : List Int) : Bool := isClubsB ps.length && ps.all (fun x => inR x 0 1000)
def lineF (ps : List Int) : List (List Int) := if lineOk ps = true then lineP ps else []
theorem dr_below {a b c : World} (h : Dr a b) (k : Below b.heap.size b c) : Below a.heap.size a c := (h.below _).trans (k.mono (h.below 0).size)
theorem all_in {xs : List Int} {lo hi : Int} (h : xs.all (fun e => inR e lo hi) = true) : ∀ e ∈ xs, lo ≤ e ∧ e ≤ hi := fun e he => inR_true (by rw [List.all_eq_true] at h; exact h e he)

set_option maxHeartbeats 4000000 in
theorem iLineDistances_c (A : Option Addr) (c : Nat) (ps : List Int) (w : World) (ha : Ints w A ps) (hm : ps.length ≤ 1048576) :
    Calls Try.prog 7 #[.slice A ps.length c] w (GivesII 3 22 w (lineF ps)) := by
  generalize hR : lineF ps = R
  have HR := Lib.hid hR
  clear hR
  have Ha := Lib.hid ha
  clear ha
  cases h1 : isClubsB ps.length
  · have HS : Hid ([] = R) := Lib.hid (by rw [← HR.out]; simp [lineF, lineOk, h1])
    have H1 := Lib.hid h1
    clear h1
    go_enter Try.func7, Try.ntmps7
    go_wp2_with fail
    refine (calls_v (isClubs_c _ _) (congrArg Value.bool H1.out)).mono ?_
    rintro e w1 ⟨rfl, hq⟩
    go_wp2
    go_ret
    rw [← HS.out]
    exact ⟨none, 0, rfl, Own2.nil .., hq.below _⟩
  · cases h2 : ps.all (fun x => inR x 0 1000)
    · have HS : Hid ([] = R) := Lib.hid (by rw [← HR.out]; unfold lineF lineOk; rw [h2]; simp)
      have H1 := Lib.hid h1
      have H2 := Lib.hid h2
      clear h1 h2
      go_enter Try.func7, Try.ntmps7
      go_wp2_with fail
      refine (calls_v (isClubs_c _ _) (congrArg Value.bool H1.out)).mono ?_
      rintro e w1 ⟨rfl, hq⟩
      have Hq := Lib.hid hq
      clear hq
      go_wp2_with fail
      refine (gives_v (allWithin_c _ _ _ _ _ _ (Ha.out.keep Hq.out.keep) hm) (congrArg Value.bool H2.out)).mono ?_
      rintro e w2 ⟨rfl, hb2⟩
      go_wp2
      go_ret
      rw [← HS.out]
      exact ⟨none, 0, rfl, Own2.nil .., dr_below Hq.out hb2⟩
    · have hn := isClubs_true h1
      have hin := all_in h2
      obtain ⟨n, hnl⟩ : ∃ n, ps.length = n := ⟨_, rfl⟩
      have hn10 : n ≤ 10 := by omega
      obtain ⟨L, hL⟩ : ∃ L, lineP ps = L := ⟨_, rfl⟩
      have hLl : L.length = n := by rw [← hL, lineP, List.length_map, hnl]
      have HS : Hid (L = R) := Lib.hid (by rw [← HR.out, lineF, if_pos (by rw [lineOk, h1, h2]; rfl), hL])
      rw [hnl] at h1 ⊢
      have HLa : Hid (∀ (a : Nat) (x : Int), ps[a]? = some x → L[a]? = some (lineRow ps x)) := Lib.hid (fun a x h => by rw [← hL]; exact map_some h)
      have hall := fun W hW => allWithin_c A c ps 0 1000 W hW hm
      rw [hnl, h2] at hall
      have H1 := Lib.hid h1
      have H2 := Lib.hid h2
      have Hin := Lib.hid hin
      have Hnl := Lib.hid hnl
      have HL := Lib.hid hL
      have HLl := Lib.hid hLl
      have Hall := Lib.hid hall
      clear h1 h2 hin hnl hL hLl hall
      go_enter Try.func7, Try.ntmps7
      go_wp2_with fail
      refine (calls_v (isClubs_c _ _) (congrArg Value.bool H1.out)).mono ?_
      rintro e w0 ⟨rfl, hq⟩
      have Hq := Lib.hid hq
      clear hq
      go_wp2_with fail
      refine (Hall.out _ (Ha.out.keep Hq.out.keep)).mono ?_
      rintro e w1 ⟨rfl, hb1⟩
      have Hb1 := Lib.hid (dr_below Hq.out hb1)
      clear hb1
      have hz1 : w.heap.size ≤ w1.heap.size := Hb1.out.size
      go_wp2_with (refine wpList_mk w1 rfl (.tmp 18) (.tmp 18) 23 rfl 22 (.slice none 0 0) 24 Try.underlying23 info_ints rfl n ?_ ?_ ?_ ?_ ?_; rfl; rfl; decide; omega; intro w2 homade hb2 hz2)
      have Hb2 := Lib.hid (Hb1.out.trans (hb2.mono Hb1.out.size))
      have Ho0 := Lib.hid homade
      clear homade hb2
      go_wp2
      go_loopw [22] (fun i wr => ∃ (a : Nat) (hs : List (Option Addr × Nat)), a ≤ n ∧ i = .int .i64 a ∧ hs.length = a ∧ Own 22 w1.heap.size w2.heap.size wr (some ⟨w1.heap.size, 0, none⟩) n (List.zipWith hdr hs (L.take a) ++ List.replicate (n - a) (.slice none 0 0)) ∧ Inner 3 w2.heap.size wr.heap.size wr hs (L.take a) ∧ Below w.heap.size w wr ∧ w2.heap.size ≤ wr.heap.size) (fun i _ => n - (intOf i).toNat)
      case atStart => exact ⟨0, [], Nat.zero_le _, rfl, rfl, by simpa using Ho0.out, Inner.nil .., Hb2.out, Nat.le_refl _⟩
      case round =>
        obtain ⟨a, hs, ha', rfl, hl, ho, hi, hd, hz⟩ := hrel
        have Ho := Lib.hid ho
        have Hi := Lib.hid hi
        have Hd := Lib.hid hd
        have Hl := Lib.hid hl
        clear ho hi hd hl
        by_cases hlt : a < n
        · obtain ⟨x, hx⟩ := some_of (l := ps) (k := a) (by rw [Hnl.out]; exact hlt)
          obtain ⟨ad, rfl, hca⟩ := Ha.out.keep (keep_of_below Hd.out) a x hx
          obtain ⟨x0, x1⟩ := Hin.out x (List.mem_of_getElem? hx)
          have hLx := HLa.out a x hx
          obtain ⟨row, hrow⟩ : ∃ row, lineRow ps x = row := ⟨_, rfl⟩
          have hrl : row.length = n := by rw [← hrow, lineRow, List.length_map, Hnl.out]
          rw [hrow] at hLx
          have Hra : Hid (∀ (j : Nat) (y : Int), ps[j]? = some y → row[j]? = some (max (x - y) (y - x))) := Lib.hid (fun j y h => by rw [← hrow]; exact map_some (f := fun y => max (x - y) (y - x)) h)
          obtain ⟨Z, hZ⟩ : ∃ Z, List.zipWith hdr hs (L.take a) ++ List.replicate (n - a) (.slice none 0 0) = Z := ⟨_, rfl⟩
          have hZa : Z[a]? = some (.slice none 0 0) := by rw [← hZ]; exact outer_at Hl.out (by rw [HLl.out]; exact hlt) hlt
          have hZ0 : Z.set a (.slice none 0 0) = Z := by
            apply List.ext_getElem?
            intro i
            rw [List.getElem?_set]
            by_cases hai : a = i
            · subst hai; rw [if_pos rfl, if_pos (lt_of hZa), hZa]
            · rw [if_neg hai]
          have hoZ := Ho.out
          rw [hZ, ← hZ0] at hoZ
          have HoZ := Lib.hid hoZ
          have Hx := Lib.hid hx
          have HLx := Lib.hid hLx
          have Hrow := Lib.hid hrow
          have Hrl := Lib.hid hrl
          have HZ := Lib.hid hZ
          have HZa := Lib.hid hZa
          have HZ0 := Lib.hid hZ0
          clear hoZ hx hLx hrow hrl hZ hZa hZ0
          go_wp2
          obtain ⟨wo, hwo⟩ : ∃ wo : World, wo = wr := ⟨_, rfl⟩
          rw [← hwo] at HoZ Hi Hd hz ⊢
          clear hwo hca Ho wr
          have hzw : w.heap.size ≤ wo.heap.size := Hd.out.size
          go_loopw [29] (fun i wr => ∃ (j : Nat) (C : Option Addr) (cc : Nat), j ≤ n ∧ i = .int .i64 j ∧ Own 22 w1.heap.size w2.heap.size wr (some ⟨w1.heap.size, 0, none⟩) n (Z.set a (.slice C j cc)) ∧ Own 3 wo.heap.size wr.heap.size wr C cc ((row.take j).map (.int .i64)) ∧ Inner 3 w2.heap.size wo.heap.size wr hs (L.take a) ∧ Below w.heap.size w wr ∧ wo.heap.size ≤ wr.heap.size) (fun i _ => n - (intOf i).toNat)
          case atStart => exact ⟨0, none, 0, Nat.zero_le _, rfl, HoZ.out, Own.nil .., Hi.out, Hd.out, Nat.le_refl _⟩
          case round =>
            clear HoZ
            obtain ⟨j, C, cc, hj, rfl, ho, hr, hi, hd, hzr⟩ := hrel
            have Ho := Lib.hid ho
            have Hr := Lib.hid hr
            have Hi := Lib.hid hi
            have Hd := Lib.hid hd
            clear ho hr hi hd
            by_cases hlt2 : j < n
            · obtain ⟨y, hy⟩ := some_of (l := ps) (k := j) (by rw [Hnl.out]; exact hlt2)
              obtain ⟨ae, eae, hcb⟩ := Ha.out.keep (keep_of_below Hd.out) j y hy
              obtain rfl : ad = ae := by injection eae
              obtain ⟨y0, y1⟩ := Hin.out y (List.mem_of_getElem? hy)
              have w3 : IntKind.i64.wrap (x - y) = x - y := IntWalk.i64_in _ (by omega)
              have w4 : IntKind.i64.wrap (y - x) = y - x := IntWalk.i64_in _ (by omega)
              have hZs : (Z.set a (.slice C j cc))[a]? = some (.slice C j cc) := by rw [List.getElem?_set, if_pos rfl, if_pos (lt_of HZa.out)]
              obtain ⟨g, eg, _, _, hco, hfo⟩ := Ho.out.at_ hZs
              obtain rfl : w1.heap.size = g := by injection eg with eg; injection eg
              have hani : (a : Int) < (n : Int) := by omega
              have Hy := Lib.hid hy
              have HZs := Lib.hid hZs
              clear hy hZs
              clear eae eg
              have hmx : max (x - y) (y - x) = (if x - y < y - x then y - x else x - y) := by split <;> omega
              have hrow' : row.take (j + 1) = row.take j ++ [if x - y < y - x then y - x else x - y] := by rw [take_of (Hra.out j y Hy.out), hmx]
              have hmap : (row.take j).map (Value.int .i64) ++ [.int .i64 (if x - y < y - x then y - x else x - y)] = (row.take (j + 1)).map (Value.int .i64) := by rw [hrow']; simp
              have hlm : j = ((row.take j).map (Value.int .i64)).length := by rw [List.length_map, List.length_take, Hrl.out]; omega
              have Hmx := Lib.hid hmx
              have Hrow' := Lib.hid hrow'
              have Hmap := Lib.hid hmap
              have Hlm := Lib.hid hlm
              clear hmx hrow' hmap hlm
              go_wp2_with (at_builtin; refine wpList_app1 rfl (.tmp 38) (.tmp 46) 22 rfl 3 (.int .i64 0) 8 Try.underlying22 info_int rfl wo.heap.size C cc ((row.take j).map (.int .i64)) ?_ ?_ (.int .i64 (if x - y < y - x then y - x else x - y)) rfl ?_ ?_ j ?_ ?_ ?_ ?_; exact Hr.out; exact hzr; (rw [← Hlm.out]; omega); decide; exact Hlm.out; rfl; rfl; intro A' c' w' ho' hb' _ hz'; rw [Hmap.out] at ho'; have hO2 := Ho.out.below (hb'.mono hz); obtain ⟨g, eg, _, _, hco2, hfo2⟩ := hO2.at_ HZs.out; (obtain rfl : w1.heap.size = g := by injection eg with eg; injection eg); have HO2 := Lib.hid hO2; have Ho' := Lib.hid ho'; have Hb' := Lib.hid hb'; clear hO2 ho' hb' eg)
              have hO3 := HO2.out.set_ a (.slice A' (j + 1) c')
              rw [List.set_set] at hO3
              have hon : Only w1.heap.size w2.heap.size w' (w'.setCell ⟨w1.heap.size, a, none⟩ (.slice A' (j + 1) c')) := (Only.refl _ _ _).setCell (Nat.le_refl _) hz2 _
              have hr3 := (Ho'.out.only hon (Nat.le_refl _) (.inr hz)).wide (Nat.le_refl _) hon.size
              have hi3 := (Hi.out.below Hb'.out).only hon (Nat.le_trans hzr hz') (.inr (Nat.le_refl _))
              have hd3 := (Hd.out.trans (Hb'.out.mono hzw)).setCell (p := ⟨w1.heap.size, a, none⟩) hz1 (.slice A' (j + 1) c')
              have hz3 : wo.heap.size ≤ (w'.setCell ⟨w1.heap.size, a, none⟩ (.slice A' (j + 1) c')).heap.size := by rw [setCell_size]; omega
              have HO3 := Lib.hid hO3
              have Hr3 := Lib.hid hr3
              have Hi3 := Lib.hid hi3
              have Hd3 := Lib.hid hd3
              clear hO3 hr3 hi3 hd3
              clear hon
              go_wp2
              go_roundw
              case rel => exact ⟨j + 1, A', c', by omega, by go_num, HO3.out, Hr3.out, Hi3.out, Hd3.out, hz3⟩
              case measure => simp [intOf]; omega
            · obtain rfl : j = n := by omega
              have hrf : row.take j = row := by rw [← Hrl.out, List.take_length]
              have ho3 := Ho.out
              rw [← HZ.out] at ho3
              have hos := outer_step (hs := hs) (xss := L) (k := a) (n := j) (a := C) (c' := cc) (xs := row) (z := .slice none 0 0) Hl.out HLx.out hlt
              rw [Hrl.out] at hos
              rw [hos] at ho3
              have hr3 := Hr.out
              rw [hrf] at hr3
              have hi3 := Hi.out.snoc hr3 hz hzr
              rw [← take_of HLx.out] at hi3
              have hl3 : (hs ++ [(C, cc)]).length = a + 1 := by rw [List.length_append, Hl.out]; rfl
              have hz4 : w2.heap.size ≤ wr.heap.size := Nat.le_trans hz hzr
              have Ho3 := Lib.hid ho3
              have Hi3 := Lib.hid hi3
              have Hl3 := Lib.hid hl3
              clear ho3 hi3 hl3
              clear hr3 hos hrf
              go_wp2
              go_roundw
              case rel => exact ⟨a + 1, hs ++ [(C, cc)], by omega, by go_num, Hl3.out, Ho3.out, Hi3.out, Hd.out, hz4⟩
              case measure => simp [intOf]; omega
        · obtain rfl : a = n := by omega
          have ho3 := Ho.out
          rw [Nat.sub_self, List.replicate_zero, List.append_nil, ← HLl.out, List.take_length] at ho3
          have hi3 := Hi.out
          rw [← HLl.out, List.take_length] at hi3
          go_wp2
          go_ret
          rw [← HS.out]
          exact ⟨some ⟨w1.heap.size, 0, none⟩, L.length, by rw [HLl.out]; rfl, ⟨hs, ho3.wide hz1 hz, hi3.wide (by omega) (Nat.le_refl _)⟩, Hd.out⟩

def wmax (x y : Int) : Int := if IntKind.i64.wrap (x - y) < IntKind.i64.wrap (y - x) then IntKind.i64.wrap (y - x) else IntKind.i64.wrap (x - y)
def lineRowW (ps : List Int) (x : Int) : List Int := ps.map (wmax x)
theorem wmax_in {x y : Int} (hx : 0 ≤ x ∧ x ≤ 1000) (hy : 0 ≤ y ∧ y ≤ 1000) : wmax x y = max (x - y) (y - x) := by
  unfold wmax
  rw [IntWalk.i64_in (x - y) (by omega), IntWalk.i64_in (y - x) (by omega)]
  split <;> omega
theorem lineW_in {ps : List Int} (h : ∀ x ∈ ps, 0 ≤ x ∧ x ≤ 1000) : ps.map (lineRowW ps) = lineP ps := by
  unfold lineP lineRowW lineRow
  apply List.map_congr_left
  intro x hx
  apply List.map_congr_left
  intro y hy
  exact wmax_in (h x hx) (h y hy)
theorem out_empty0 (TT lo : Nat) (w : World) (hlo : lo ≤ w.heap.size) : Own TT lo (w.alloc (.cells #[] TT)).heap.size (w.alloc (.cells #[] TT)) (some ⟨w.heap.size, 0, none⟩) 0 [] :=
  ⟨by simp, by unfold maxLen; omega, .inr ⟨w.heap.size, #[], rfl, hlo, by simp, heap_alloc_new w _, rfl, rfl⟩⟩

set_option maxHeartbeats 4000000 in
theorem sLineDistances_c (A : Option Addr) (c : Nat) (ps : List Int) (w : World) (ha : Ints w A ps) (hm : ps.length ≤ 1048576) :
    Calls Try.prog 5 #[.slice A ps.length c] w (GivesII 3 22 w (lineF ps)) := by
  generalize hR : lineF ps = R
  have HR := Lib.hid hR
  clear hR
  have Ha := Lib.hid ha
  clear ha
  cases h1 : isClubsB ps.length
  · have HS : Hid ([] = R) := Lib.hid (by rw [← HR.out]; simp [lineF, lineOk, h1])
    have H1 := Lib.hid h1
    clear h1
    go_enter Try.func5, Try.ntmps5
    go_wp2_with fail
    refine (calls_v (l16Size_c _ _) (congrArg Value.bool H1.out)).mono ?_
    rintro e w1 ⟨rfl, hq⟩
    go_wp2
    go_ret
    rw [← HS.out]
    exact ⟨none, 0, rfl, Own2.nil .., hq.below _⟩
  · have hn := isClubs_true h1
    obtain ⟨n, hnl⟩ : ∃ n, ps.length = n := ⟨_, rfl⟩
    have hn10 : n ≤ 10 := by omega
    obtain ⟨L, hL⟩ : ∃ L, ps.map (lineRowW ps) = L := ⟨_, rfl⟩
    have hLl : L.length = n := by rw [← hL, List.length_map, hnl]
    have HS : Hid (ps.all (fun x => inR x 0 1000) = true → L = R) := Lib.hid (fun h2 => by rw [← HR.out, lineF, if_pos (by rw [lineOk, h1, h2]; rfl), ← lineW_in (all_in h2), hL])
    have HF : Hid (ps.all (fun x => inR x 0 1000) = false → [] = R) := Lib.hid (fun h2 => by rw [← HR.out, lineF, lineOk, h2]; simp)
    rw [hnl] at h1 ⊢
    have HLa : Hid (∀ (a : Nat) (x : Int), ps[a]? = some x → L[a]? = some (lineRowW ps x)) := Lib.hid (fun a x h => by rw [← hL]; exact map_some h)
    have H1 := Lib.hid h1
    have Hnl := Lib.hid hnl
    have HL := Lib.hid hL
    have HLl := Lib.hid hLl
    clear h1 hnl hL hLl
    go_enter Try.func5, Try.ntmps5
    go_wp2_with fail
    refine (calls_v (l16Size_c _ _) (congrArg Value.bool H1.out)).mono ?_
    rintro e w1 ⟨rfl, hq⟩
    have Hb1 := Lib.hid (hq.below w.heap.size)
    clear hq
    go_wp2
    go_loopw [16, 3] (fun i o wr => ∃ (a : Nat) (B : Option Addr) (d : Nat), a ≤ n ∧ i = .int .i64 a ∧ o = .slice B a d ∧ (∀ (j : Nat) (x : Int), j < a → ps[j]? = some x → inR x 0 1000 = true) ∧ Own2 3 22 w.heap.size wr.heap.size wr B d (L.take a) ∧ Below w.heap.size w wr) (fun i _ _ => n - (intOf i).toNat)
    case atStart => exact ⟨0, some ⟨w1.heap.size, 0, none⟩, 0, Nat.zero_le _, rfl, rfl, fun j x h => absurd h (Nat.not_lt_zero _), ⟨[], by simpa using out_empty0 22 w.heap.size w1 Hb1.out.size, Inner.nil ..⟩, Hb1.out.alloc Hb1.out.size _⟩
    case round =>
      obtain ⟨a, B, d, ha', rfl, rfl, hin, ho, hd⟩ := hrel
      have Hin := Lib.hid hin
      have Ho := Lib.hid ho
      have Hd := Lib.hid hd
      clear hin ho hd
      by_cases hlt : a < n
      · obtain ⟨x, hx⟩ := some_of (l := ps) (k := a) (by rw [Hnl.out]; exact hlt)
        obtain ⟨ad, rfl, hca⟩ := Ha.out.keep (keep_of_below Hd.out) a x hx
        cases hxr : inR x 0 1000
        · have HS2 : Hid ([] = R) := Lib.hid (HF.out (by
            rw [Bool.eq_false_iff]; intro h; rw [List.all_eq_true] at h; rw [h x (List.mem_of_getElem? hx)] at hxr; cases hxr))
          have Hx := Lib.hid hx
          have Hxr := Lib.hid hxr
          clear hx hxr
          go_wp2_with fail
          refine (calls_v (l01In_c _ _ _ _) (congrArg Value.bool Hxr.out)).mono ?_
          rintro e w2 ⟨rfl, hq2⟩
          go_wp2
          go_ret
          rw [← HS2.out]
          exact ⟨none, 0, rfl, Own2.nil .., Hd.out.trans (hq2.below _)⟩
        · obtain ⟨x0, x1⟩ := inR_true hxr
          have hLx := HLa.out a x hx
          obtain ⟨row, hrow⟩ : ∃ row, lineRowW ps x = row := ⟨_, rfl⟩
          have hrl : row.length = n := by rw [← hrow, lineRowW, List.length_map, Hnl.out]
          rw [hrow] at hLx
          have Hra : Hid (∀ (j : Nat) (y : Int), ps[j]? = some y → row[j]? = some (wmax x y)) := Lib.hid (fun j y h => by rw [← hrow]; exact map_some (f := wmax x) h)
          have hin2 : ∀ (j : Nat) (x : Int), j < a + 1 → ps[j]? = some x → inR x 0 1000 = true := fun j x' hj hx' => by
            rcases Nat.lt_succ_iff_lt_or_eq.1 hj with hj | rfl
            · exact Hin.out j x' hj hx'
            · rw [hx] at hx'; injection hx' with hx'; rw [← hx']; exact hxr
          have Hx := Lib.hid hx
          have Hxr := Lib.hid hxr
          have HLx := Lib.hid hLx
          have Hrow := Lib.hid hrow
          have Hrl := Lib.hid hrl
          have Hin2 := Lib.hid hin2
          clear hx hxr hLx hrow hrl hin2
          go_wp2_with fail
          refine (calls_v (l01In_c _ _ _ _) (congrArg Value.bool Hxr.out)).mono ?_
          rintro e wo ⟨rfl, hq2⟩
          have Hdo := Lib.hid (Hd.out.trans (hq2.below _))
          have Hoo := Lib.hid ((Ho.out.below (hq2.below _)).wide (Nat.le_refl _) (hq2.below 0).size)
          have hzw : w.heap.size ≤ wo.heap.size := Hdo.out.size
          clear hq2 hca
          go_wp2
          go_loopw [26, 6] (fun i o wr => ∃ (j : Nat) (C : Option Addr) (cc : Nat), j ≤ n ∧ i = .int .i64 j ∧ o = .slice C j cc ∧ Own 3 wo.heap.size wr.heap.size wr C cc ((row.take j).map (.int .i64)) ∧ Below wo.heap.size wo wr) (fun i _ _ => n - (intOf i).toNat)
          case atStart => exact ⟨0, some ⟨wo.heap.size, 0, none⟩, 0, Nat.zero_le _, rfl, rfl, by simpa using out_empty0 3 wo.heap.size wo (Nat.le_refl _), (Below.refl _ _).alloc (Nat.le_refl _) _⟩
          case round =>
            obtain ⟨j, C, cc, hj, rfl, rfl, hr, hb⟩ := hrel
            have hdw : Below w.heap.size w wr := Hdo.out.trans (hb.mono hzw)
            have hzr : wo.heap.size ≤ wr.heap.size := hb.size
            have Hr := Lib.hid hr
            have Hb := Lib.hid hb
            have Hdw := Lib.hid hdw
            clear hr hb hdw
            by_cases hlt2 : j < n
            · obtain ⟨y, hy⟩ := some_of (l := ps) (k := j) (by rw [Hnl.out]; exact hlt2)
              obtain ⟨ae, eae, hcb⟩ := Ha.out.keep (keep_of_below Hdw.out) j y hy
              obtain rfl : ad = ae := by injection eae
              obtain ⟨dd, w3⟩ : ∃ dd, IntKind.i64.wrap (x - y) = dd := ⟨_, rfl⟩
              obtain ⟨ee, w4⟩ : ∃ ee, IntKind.i64.wrap (y - x) = ee := ⟨_, rfl⟩
              have hw : wmax x y = (if dd < ee then ee else dd) := by rw [wmax, w3, w4]
              have hrow' : row.take (j + 1) = row.take j ++ [if dd < ee then ee else dd] := by rw [take_of (Hra.out j y hy), hw]
              have hmap : (row.take j).map (Value.int .i64) ++ [.int .i64 (if dd < ee then ee else dd)] = (row.take (j + 1)).map (Value.int .i64) := by rw [hrow']; simp
              have hlm : j = ((row.take j).map (Value.int .i64)).length := by rw [List.length_map, List.length_take, Hrl.out]; omega
              have Hw := Lib.hid hw
              have Hrow' := Lib.hid hrow'
              have Hmap := Lib.hid hmap
              have Hlm := Lib.hid hlm
              have Hy := Lib.hid hy
              clear hw hrow' hmap hlm hy
              clear eae
              go_wp2_with (at_builtin; refine wpList_app1 rfl (.tmp 30) (.tmp 38) 22 rfl 3 (.int .i64 0) 8 Try.underlying22 info_int rfl wo.heap.size C cc ((row.take j).map (.int .i64)) ?_ ?_ (.int .i64 (if dd < ee then ee else dd)) rfl ?_ ?_ j ?_ ?_ ?_ ?_; exact Hr.out; exact hzr; (rw [← Hlm.out]; omega); decide; exact Hlm.out; rfl; rfl; intro A' c' w' ho' hb' _ hz'; rw [Hmap.out] at ho')
              have hb5 := Hb.out.trans hb'
              have Ho' := Lib.hid ho'
              have Hb5 := Lib.hid hb5
              clear ho' hb5
              clear hb'
              go_wp2
              go_roundw
              case rel => exact ⟨j + 1, A', c', by omega, by go_num, by go_num, Ho'.out, Hb5.out⟩
              case measure => simp [intOf]; omega
            · obtain rfl : j = n := by omega
              have hrf : row.take j = row := by rw [← Hrl.out, List.take_length]
              have hr3 := Hr.out
              rw [hrf] at hr3
              have hlB : a = (L.take a).length := by rw [List.length_take, HLl.out]; omega
              have Hr3 := Lib.hid hr3
              have HlB := Lib.hid hlB
              clear hr3 hlB
              clear hrf
              go_wp2_with (at_builtin; refine wpList_app2 rfl (.tmp 41) (.tmp 43) 23 rfl 3 22 Try.underlying23 info_ints info_rows_ne2 w.heap.size wo.heap.size B d (L.take a) C cc row ?_ ?_ ?_ ?_ ?_ a j ?_ ?_ ?_ ?_ ?_; exact Hoo.out.below Hb.out; exact Hr3.out; exact hzw; exact hzr; (rw [← HlB.out]; omega); exact HlB.out; exact Hrl.out.symm; rfl; rfl; intro B' d' w' ho' hb' hz')
              rw [← take_of HLx.out] at ho'
              have hd5 := Hdw.out.trans hb'
              have Ho' := Lib.hid ho'
              have Hd5 := Lib.hid hd5
              clear ho' hd5
              clear hb'
              go_wp2
              go_roundw
              case rel => exact ⟨a + 1, B', d', by omega, by go_num, by go_num, Hin2.out, Ho'.out, Hd5.out⟩
              case measure => simp [intOf]; omega
      · obtain rfl : a = n := by omega
        have hall : ps.all (fun x => inR x 0 1000) = true := by
          rw [List.all_eq_true]
          intro x hx
          obtain ⟨j, hj, rfl⟩ := List.mem_iff_getElem.1 hx
          exact Hin.out j _ (by rw [← Hnl.out]; exact hj) (List.getElem?_eq_getElem hj)
        have ho3 := Ho.out
        rw [← HLl.out, List.take_length] at ho3
        have HS2 : Hid (L = R) := Lib.hid (HS.out hall)
        clear hall
        go_wp2
        go_ret
        rw [← HS2.out]
        exact ⟨B, d, by rw [HLl.out]; rfl, ho3, Hd.out⟩
end Go.Proofs.Ytgfaeoceipippaa
