/- Contracts: when a table of distances is valid (program and reference). -/
import Derived.Test.YtgfaeoceipippaaClubs
import Derived.Test.YtgfaeoceipippaaScan
import Derived.Test.YtgfaeoceipippaaBase2
namespace Go.Proofs.Ytgfaeoceipippaa
open Go.RowKit

def RowD (n a : Nat) (row : List Int) : Prop := row.length = n ∧ (∀ x ∈ row, inR x 0 1000 = true) ∧ row[a]? = some 0
def SymD (far : List (List Int)) (a : Nat) (row : List Int) (b : Nat) : Prop := ∀ rb x, far[b]? = some rb → row[b]? = some x → rb[a]? = some x
def Dist (n : Nat) (far : List (List Int)) : Prop := (∀ a row, far[a]? = some row → RowD n a row) ∧ (∀ a row, far[a]? = some row → ∀ b, SymD far a row b)
open Classical in
noncomputable def distOk (n : Int) (far : List (List Int)) : Bool := isClubsB n && decide ((far.length : Int) = n ∧ Dist far.length far)
theorem distOk_no {n : Int} {far : List (List Int)} (h : ¬ Dist far.length far) : distOk n far = false := by simp [distOk, h]
theorem distOk_yes {n : Int} {far : List (List Int)} (h1 : isClubsB n = true) (h2 : (far.length : Int) = n) (h : Dist far.length far) : distOk n far = true := by simp [distOk, h, h1, h2]
theorem mem_at {xs : List Int} {k : Nat} {x : Int} (h : xs[k]? = some x) : x ∈ xs := List.mem_of_getElem? h
theorem dr_bel {a b c : World} (h : Dr a b) (k : Below b.heap.size b c) : Below a.heap.size a c := (h.below _).trans (k.mono (h.below 0).size)
theorem bel_dr {B : Nat} {a b c : World} (h : Below B a b) (k : Dr b c) : Below B a c := h.trans (k.below _)

set_option maxHeartbeats 2000000 in
theorem iDistancesOk_c (n : Int) (B : Option Addr) (d : Nat) (far : List (List Int)) (w : World) (hb : Rows w B far) (hm : far.length ≤ 1048576) (hm2 : ∀ xs ∈ far, xs.length ≤ 1048576) :
    Calls Try.prog 16 #[.int .i64 n, .slice B far.length d] w (Gives w (.bool (distOk n far))) := by
  generalize hR : distOk n far = R
  have HR := Lib.hid hR
  clear hR
  have Hb := Lib.hid hb
  clear hb
  cases h1 : isClubsB n
  · have H1 := Lib.hid h1
    clear h1
    go_enter Try.func16, Try.ntmps16
    go_wp2_with fail
    refine (calls_v (isClubs_c _ _) (congrArg Value.bool H1.out)).mono ?_
    rintro e w1 ⟨rfl, hq⟩
    go_wp2
    go_ret
    exact ⟨ret_bool (by rw [← HR.out]; simp [distOk, H1.out]), hq.below _⟩
  · by_cases h2 : (far.length : Int) = n
    · subst h2
      have HS : Hid (Dist far.length far → R = true) := Lib.hid (fun h => by rw [← HR.out]; exact distOk_yes h1 rfl h)
      have HF : Hid (¬ Dist far.length far → R = false) := Lib.hid (fun h => by rw [← HR.out]; exact distOk_no h)
      have H1 := Lib.hid h1
      clear h1
      go_enter Try.func16, Try.ntmps16
      go_wp2_with fail
      refine (calls_v (isClubs_c _ _) (congrArg Value.bool H1.out)).mono ?_
      rintro e w1 ⟨rfl, hq⟩
      have Hq := Lib.hid hq
      clear hq
      go_wp2
      go_loopw [22] (fun i wr => ∃ k : Nat, k ≤ far.length ∧ i = .int .i64 k ∧ (∀ a row, a < k → far[a]? = some row → RowD far.length a row) ∧ Below w.heap.size w wr) (fun i _ => far.length - (intOf i).toNat)
      case atStart => exact ⟨0, Nat.zero_le _, rfl, fun a row h => absurd h (Nat.not_lt_zero _), Hq.out.below _⟩
      case round =>
        obtain ⟨k, hk, rfl, hin, hd⟩ := hrel
        have Hin := Lib.hid hin
        have Hd := Lib.hid hd
        clear hin hd
        by_cases hlt : k < far.length
        · obtain ⟨row, hx⟩ := some_of hlt
          obtain ⟨bd, a, c', rfl, _, _, hca, hia⟩ := Hb.out.keep (keep_of_below Hd.out) k row hx
          have hrm := hm2 row (List.mem_of_getElem? hx)
          by_cases hlen : row.length = far.length
          · have hca' : wr.cell? (bd.add k) = some (.slice a far.length c') := by rw [← hlen]; exact hca
            have hne : ((far.length : Int) != (far.length : Int)) = false := by simp
            clear hca
            have hcon : Calls Try.prog 20 #[.slice a far.length c', .int .i64 0, .int .i64 1000] wr (Gives wr (.bool (row.all fun x => inR x 0 1000))) := by rw [← hlen]; exact allWithin_c a c' row 0 1000 wr hia hrm
            cases hall : row.all fun x => inR x 0 1000
            · rw [hall] at hcon
              have hbad : ¬ Dist far.length far := fun h => by
                have := (h.1 k row hx).2.1
                rw [← List.all_eq_true, hall] at this; cases this
              have Hx := Lib.hid hx
              have Hia := Lib.hid hia
              have Hlen := Lib.hid hlen
              have Hcon := Lib.hid hcon
              have Hall := Lib.hid hall
              have Hbad := Lib.hid hbad
              clear hx hia hlen hcon hall hbad
              go_wp2_with fail
              refine Hcon.out.mono ?_
              rintro e w3 ⟨rfl, hb3⟩
              go_wp2
              go_ret
              exact ⟨ret_bool (HF.out Hbad.out).symm, Hd.out.trans (hb3.mono Hd.out.size)⟩
            · rw [hall] at hcon
              obtain ⟨x, hxk⟩ := some_of (l := row) (k := k) (by omega)
              obtain ⟨ad, rfl, hcx⟩ := hia k x hxk
              have Hia := Lib.hid hia
              have Hcon := Lib.hid hcon
              clear hia hcon
              by_cases hz : x = 0
              · subst hz
                have hin2 : ∀ a row, a < k + 1 → far[a]? = some row → RowD far.length a row := fun a row' h h' => by
                  rcases Nat.lt_succ_iff_lt_or_eq.1 h with h | rfl
                  · exact Hin.out a row' h h'
                  · rw [hx] at h'; injection h' with h'; subst h'
                    exact ⟨hlen, fun x hx => by have := List.all_eq_true.1 hall x hx; exact this, hxk⟩
                have Hx := Lib.hid hx
                have Hlen := Lib.hid hlen
                have Hall := Lib.hid hall
                have Hxk := Lib.hid hxk
                have Hin2 := Lib.hid hin2
                clear hx hlen hall hxk hin2
                go_wp2_with fail
                refine Hcon.out.mono ?_
                rintro e w3 ⟨rfl, hb3⟩
                have hcx3 := keep_of_below hb3 _ _ hcx
                have Hb3 := Lib.hid hb3
                clear hb3
                go_wp2
                go_roundw
                case rel => exact ⟨k + 1, by omega, by go_num, Hin2.out, Hd.out.trans (Hb3.out.mono Hd.out.size)⟩
                case measure => simp [intOf]; omega
              · have hz' : (x != 0) = true := by simpa using hz
                have hbad : ¬ Dist far.length far := fun h => by
                  have := (h.1 k row hx).2.2
                  rw [hxk] at this; injection this with this; exact hz this
                have Hx := Lib.hid hx
                have Hlen := Lib.hid hlen
                have Hall := Lib.hid hall
                have Hxk := Lib.hid hxk
                have Hbad := Lib.hid hbad
                have Hz := Lib.hid hz
                clear hx hlen hall hxk hbad hz
                go_wp2_with fail
                refine Hcon.out.mono ?_
                rintro e w3 ⟨rfl, hb3⟩
                have hcx3 := keep_of_below hb3 _ _ hcx
                have Hb3 := Lib.hid hb3
                clear hb3
                go_wp2
                go_ret
                exact ⟨ret_bool (HF.out Hbad.out).symm, Hd.out.trans (Hb3.out.mono Hd.out.size)⟩
          · have hne : ((row.length : Int) != (far.length : Int)) = true := by simp; omega
            have hbad : ¬ Dist far.length far := fun h => hlen (h.1 k row hx).1
            have Hx := Lib.hid hx
            have Hia := Lib.hid hia
            have Hlen := Lib.hid hlen
            have Hbad := Lib.hid hbad
            clear hx hia hlen hbad
            go_wp2
            go_ret
            exact ⟨ret_bool (HF.out Hbad.out).symm, Hd.out⟩
        · obtain rfl : k = far.length := by omega
          have Hrows : Hid (∀ a row, far[a]? = some row → RowD far.length a row) := Lib.hid (fun a row h => Hin.out a row (lt_of h) h)
          go_wp2
          obtain ⟨wo, hwo⟩ : ∃ wo : World, wo = wr := ⟨_, rfl⟩
          rw [← hwo] at Hd ⊢
          clear hwo wr
          have Hb' := Lib.hid (Hb.out.keep (keep_of_below Hd.out))
          go_loopw [46] (fun i wr => ∃ k : Nat, k ≤ far.length ∧ i = .int .i64 k ∧ (∀ a row, a < k → far[a]? = some row → ∀ b, SymD far a row b) ∧ Dr wo wr) (fun i _ => far.length - (intOf i).toNat)
          case atStart => exact ⟨0, Nat.zero_le _, rfl, fun a row h => absurd h (Nat.not_lt_zero _), Dr.refl _⟩
          case round =>
            clear Hin
            obtain ⟨k, hk, rfl, hin, hd2⟩ := hrel
            have Hin := Lib.hid hin
            have Hd2 := Lib.hid hd2
            clear hin hd2
            by_cases hlt : k < far.length
            · obtain ⟨row, hx⟩ := some_of hlt
              obtain ⟨bd, a, c', rfl, _, _, hca, hia⟩ := Hb'.out.keep Hd2.out.keep k row hx
              have hlen := (Hrows.out k row hx).1
              have hca' : wr.cell? (bd.add k) = some (.slice a far.length c') := by rw [← hlen]; exact hca
              clear hca
              have Hx := Lib.hid hx
              have Hia := Lib.hid hia
              clear hx hia
              go_wp2
              obtain ⟨wp, hwp⟩ : ∃ wp : World, wp = wr := ⟨_, rfl⟩
              rw [← hwp] at Hd2 Hia ⊢
              clear hwp hca' wr
              go_loopw [53] (fun i wr => ∃ j : Nat, j ≤ far.length ∧ i = .int .i64 j ∧ (∀ b, b < j → SymD far k row b) ∧ Dr wp wr) (fun i _ => far.length - (intOf i).toNat)
              case atStart => exact ⟨0, Nat.zero_le _, rfl, fun b h => absurd h (Nat.not_lt_zero _), Dr.refl _⟩
              case round =>
                obtain ⟨j, hj, rfl, hin3, hd3⟩ := hrel
                have Htr := Lib.hid (Hd2.out.trans hd3)
                have Hin3 := Lib.hid hin3
                have Hd3 := Lib.hid hd3
                clear hin3 hd3
                by_cases hlt2 : j < far.length
                · obtain ⟨x, hxj⟩ := some_of (l := row) (k := j) (by omega)
                  obtain ⟨ad, rfl, hcx⟩ := Hia.out.keep Hd3.out.keep j x hxj
                  obtain ⟨rb, hrb⟩ := some_of hlt2
                  obtain ⟨bd', b, c2, eb, _, _, hcb, hib⟩ := Hb'.out.keep Htr.out.keep j rb hrb
                  obtain rfl : bd = bd' := by injection eb
                  have hlb := (Hrows.out j rb hrb).1
                  have hcb' : wr.cell? (bd.add j) = some (.slice b far.length c2) := by rw [← hlb]; exact hcb
                  obtain ⟨y, hy⟩ := some_of (l := rb) (k := k) (by omega)
                  obtain ⟨ae, rfl, hcy⟩ := hib k y hy
                  clear hcb hib eb
                  by_cases hxy : y = x
                  · subst hxy
                    have hne : (y != y) = false := by simp
                    have hin4 : ∀ b, b < j + 1 → SymD far k row b := fun b h => by
                      rcases Nat.lt_succ_iff_lt_or_eq.1 h with h | rfl
                      · exact Hin3.out b h
                      · intro rb' x' h1 h2
                        rw [hrb] at h1; injection h1 with h1; subst h1
                        rw [hxj] at h2; injection h2 with h2; subst h2
                        exact hy
                    have Hxj := Lib.hid hxj
                    have Hrb := Lib.hid hrb
                    have Hlb := Lib.hid hlb
                    have Hy := Lib.hid hy
                    have Hin4 := Lib.hid hin4
                    clear hxj hrb hlb hy hin4
                    go_wp2
                    go_roundw
                    case rel => exact ⟨j + 1, by omega, by go_num, Hin4.out, Hd3.out⟩
                    case measure => simp [intOf]; omega
                  · have hne : (y != x) = true := by simpa using hxy
                    have hbad : ¬ Dist far.length far := fun h => by
                      have := h.2 k row Hx.out j rb x hrb hxj
                      rw [hy] at this; injection this with this; exact hxy this
                    have Hxj := Lib.hid hxj
                    have Hrb := Lib.hid hrb
                    have Hlb := Lib.hid hlb
                    have Hy := Lib.hid hy
                    have Hbad := Lib.hid hbad
                    have Hxy := Lib.hid hxy
                    clear hxj hrb hlb hy hbad hxy
                    go_wp2
                    go_ret
                    exact ⟨ret_bool (HF.out Hbad.out).symm, bel_dr Hd.out Htr.out⟩
                · obtain rfl : j = far.length := by omega
                  have hin4 : ∀ a row, a < k + 1 → far[a]? = some row → ∀ b, SymD far a row b := fun a row' h h' => by
                    rcases Nat.lt_succ_iff_lt_or_eq.1 h with h | rfl
                    · exact Hin.out a row' h h'
                    · rw [Hx.out] at h'; injection h' with h'; subst h'
                      intro b rb x h1 h2
                      exact Hin3.out b (lt_of h1) rb x h1 h2
                  have Hin4 := Lib.hid hin4
                  clear hin4
                  go_wp2
                  go_roundw
                  case rel => exact ⟨k + 1, by omega, by go_num, Hin4.out, Htr.out⟩
                  case measure => simp [intOf]; omega
            · obtain rfl : k = far.length := by omega
              go_wp2
              go_ret
              exact ⟨ret_bool (HS.out ⟨Hrows.out, fun a row h b => Hin.out a row (lt_of h) h b⟩).symm, bel_dr Hd.out Hd2.out⟩
    · have hne : ((far.length : Int) != n) = true := by simpa using h2
      have HF : Hid (false = R) := Lib.hid (by rw [← HR.out]; simp [distOk, h2])
      have H1 := Lib.hid h1
      have H2 := Lib.hid h2
      clear h1 h2
      go_enter Try.func16, Try.ntmps16
      go_wp2_with fail
      refine (calls_v (isClubs_c _ _) (congrArg Value.bool H1.out)).mono ?_
      rintro e w1 ⟨rfl, hq⟩
      go_wp2
      go_ret
      exact ⟨ret_bool HF.out, hq.below _⟩

def RowS (far : List (List Int)) (_n a : Nat) (row : List Int) (j : Nat) : Prop := ∀ b x, b < j → row[b]? = some x → inR x 0 1000 = true ∧ (a = b → x = 0) ∧ (b < a → ∀ rb, far[b]? = some rb → rb[a]? = some x)
theorem dist_of {far : List (List Int)} (h : ∀ a row, far[a]? = some row → row.length = far.length ∧ RowS far far.length a row far.length) : Dist far.length far := by
  refine ⟨fun a row hr => ?_, fun a row hr b rb x hrb hx => ?_⟩
  · obtain ⟨h1, h2⟩ := h a row hr
    refine ⟨h1, fun x hx => ?_, ?_⟩
    · obtain ⟨b, hb, rfl⟩ := List.mem_iff_getElem.1 hx
      exact (h2 b _ (by omega) (List.getElem?_eq_getElem hb)).1
    · obtain ⟨x, hx⟩ := some_of (l := row) (k := a) (by have := lt_of hr; omega)
      rw [hx, (h2 a x (lt_of hr) hx).2.1 rfl]
  · obtain ⟨h1, h2⟩ := h a row hr
    obtain ⟨h3, h4⟩ := h b rb hrb
    rcases Nat.lt_trichotomy a b with hab | rfl | hab
    · obtain ⟨y, hy⟩ := some_of (l := rb) (k := a) (by have := lt_of hr; omega)
      have := (h4 a y (lt_of hr) hy).2.2 hab row hr
      rw [hx] at this; injection this with this; rw [hy, this]
    · rw [hr] at hrb; injection hrb with hrb; subst hrb; exact hx
    · exact (h2 b x (lt_of hrb) hx).2.2 hab rb hrb

set_option maxHeartbeats 4000000 in
theorem sDistancesOk_c (n : Int) (B : Option Addr) (d : Nat) (far : List (List Int)) (w : World) (hb : Rows w B far) (hm : far.length ≤ 1048576) :
    Calls Try.prog 14 #[.int .i64 n, .slice B far.length d] w (Quiet w (.bool (distOk n far))) := by
  generalize hR : distOk n far = R
  have HR := Lib.hid hR
  clear hR
  have Hb := Lib.hid hb
  clear hb
  cases h1 : isClubsB n
  · have H1 := Lib.hid h1
    clear h1
    go_enter Try.func14, Try.ntmps14
    go_wp2_with fail
    refine (calls_v (l16Size_c _ _) (congrArg Value.bool H1.out)).mono ?_
    rintro e w1 ⟨rfl, hq⟩
    go_wp2
    go_ret
    exact ⟨ret_bool (by rw [← HR.out]; simp [distOk, H1.out]), hq⟩
  · by_cases h2 : (far.length : Int) = n
    · subst h2
      have HS : Hid (Dist far.length far → R = true) := Lib.hid (fun h => by rw [← HR.out]; exact distOk_yes h1 rfl h)
      have HF : Hid (¬ Dist far.length far → R = false) := Lib.hid (fun h => by rw [← HR.out]; exact distOk_no h)
      have H1 := Lib.hid h1
      clear h1
      go_enter Try.func14, Try.ntmps14
      go_wp2_with fail
      refine (calls_v (l16Size_c _ _) (congrArg Value.bool H1.out)).mono ?_
      rintro e w1 ⟨rfl, hq⟩
      have Hq := Lib.hid hq
      clear hq
      go_wp2
      go_loopw [20] (fun i wr => ∃ k : Nat, k ≤ far.length ∧ i = .int .i64 k ∧ (∀ a row, a < k → far[a]? = some row → row.length = far.length ∧ RowS far far.length a row far.length) ∧ Dr w wr) (fun i _ => far.length - (intOf i).toNat)
      case atStart => exact ⟨0, Nat.zero_le _, rfl, fun a row h => absurd h (Nat.not_lt_zero _), Hq.out⟩
      case round =>
        obtain ⟨k, hk, rfl, hin, hd⟩ := hrel
        have Hin := Lib.hid hin
        have Hd := Lib.hid hd
        clear hin hd
        by_cases hlt : k < far.length
        · obtain ⟨row, hx⟩ := some_of hlt
          obtain ⟨bd, a, c', rfl, _, _, hca, hia⟩ := Hb.out.keep Hd.out.keep k row hx
          by_cases hlen : row.length = far.length
          · have hca' : wr.cell? (bd.add k) = some (.slice a far.length c') := by rw [← hlen]; exact hca
            have hne : ((far.length : Int) != (far.length : Int)) = false := by simp
            clear hca
            have Hx := Lib.hid hx
            have Hia := Lib.hid hia
            clear hx hia
            go_wp2
            obtain ⟨wo, hwo⟩ : ∃ wo : World, wo = wr := ⟨_, rfl⟩
            rw [← hwo] at Hd Hia ⊢
            clear hwo hca' wr
            go_loopw [31] (fun i wr => ∃ j : Nat, j ≤ far.length ∧ i = .int .i64 j ∧ RowS far far.length k row j ∧ Dr wo wr) (fun i _ => far.length - (intOf i).toNat)
            case atStart => exact ⟨0, Nat.zero_le _, rfl, fun b x h => absurd h (Nat.not_lt_zero _), Dr.refl _⟩
            case round =>
              obtain ⟨j, hj, rfl, hrs, hd2⟩ := hrel
              have Htr := Lib.hid (Hd.out.trans hd2)
              have Hrs := Lib.hid hrs
              have Hd2 := Lib.hid hd2
              clear hrs hd2
              by_cases hlt2 : j < far.length
              · obtain ⟨x, hxj⟩ := some_of (l := row) (k := j) (by omega)
                obtain ⟨ad, rfl, hcx⟩ := Hia.out.keep Hd2.out.keep j x hxj
                cases hc : inR x 0 1000
                · have hbad : ¬ Dist far.length far := fun h => by
                    have := (h.1 k row Hx.out).2.1 x (List.mem_of_getElem? hxj)
                    rw [hc] at this; cases this
                  have Hxj := Lib.hid hxj
                  have Hc := Lib.hid hc
                  have Hbad := Lib.hid hbad
                  clear hxj hc hbad
                  go_wp2_with fail
                  refine (calls_v (l01In_c _ _ _ _) (congrArg Value.bool Hc.out)).mono ?_
                  rintro e w3 ⟨rfl, hq⟩
                  go_wp2
                  go_ret
                  exact ⟨ret_bool (HF.out Hbad.out).symm, Htr.out.trans hq⟩
                · have hstep : ∀ (h1 : k = j → x = 0) (h2 : j < k → ∀ rb, far[j]? = some rb → rb[k]? = some x), RowS far far.length k row (j + 1) := fun h1 h2 b y hb hy => by
                    rcases Nat.lt_succ_iff_lt_or_eq.1 hb with hb | rfl
                    · exact Hrs.out b y hb hy
                    · rw [hxj] at hy; injection hy with hy; subst hy
                      exact ⟨hc, h1, h2⟩
                  by_cases hkj : k = j
                  · have hkj' : ((k : Int) == (j : Int)) = true := by simp; omega
                    have hlt' : ¬ (j : Int) < (k : Int) := by omega
                    by_cases hz : x = 0
                    · subst hz
                      have hst : RowS far far.length k row (j + 1) := hstep (fun _ => rfl) (fun h => by omega)
                      clear hstep
                      have Hxj := Lib.hid hxj
                      have Hc := Lib.hid hc
                      have Hst := Lib.hid hst
                      have Hkj := Lib.hid hkj
                      clear hxj hc hst hkj
                      go_wp2_with fail
                      refine (calls_v (l01In_c _ _ _ _) (congrArg Value.bool Hc.out)).mono ?_
                      rintro e w3 ⟨rfl, hq⟩
                      have Hq3 := Lib.hid hq
                      clear hq
                      go_wp2
                      go_roundw
                      case rel => exact ⟨j + 1, by omega, by go_num, Hst.out, Hd2.out.trans Hq3.out⟩
                      case measure => simp [intOf]; omega
                    · have hz' : (x != 0) = true := by simpa using hz
                      have hbad : ¬ Dist far.length far := fun h => by
                        have := (h.1 k row Hx.out).2.2
                        rw [hkj, hxj] at this; injection this with this; exact hz this
                      clear hstep
                      have Hxj := Lib.hid hxj
                      have Hc := Lib.hid hc
                      have Hbad := Lib.hid hbad
                      have Hz := Lib.hid hz
                      clear hxj hc hbad hz
                      go_wp2_with fail
                      refine (calls_v (l01In_c _ _ _ _) (congrArg Value.bool Hc.out)).mono ?_
                      rintro e w3 ⟨rfl, hq⟩
                      go_wp2
                      go_ret
                      exact ⟨ret_bool (HF.out Hbad.out).symm, Htr.out.trans hq⟩
                  · have hkj' : ((k : Int) == (j : Int)) = false := by simp; omega
                    by_cases hjk : j < k
                    · obtain ⟨rb, hrb⟩ := some_of hlt2
                      obtain ⟨bd', b, c2, eb, _, _, hcb, hib⟩ := Hb.out.keep Htr.out.keep j rb hrb
                      obtain rfl : bd = bd' := by injection eb
                      have hlb := (Hin.out j rb hjk hrb).1
                      have hcb' : wr.cell? (bd.add j) = some (.slice b far.length c2) := by rw [← hlb]; exact hcb
                      obtain ⟨y, hy⟩ := some_of (l := rb) (k := k) (by omega)
                      obtain ⟨ae, rfl, hcy⟩ := hib k y hy
                      clear hcb hib eb
                      by_cases hxy : x = y
                      · subst hxy
                        have hne : (x != x) = false := by simp
                        have hst : RowS far far.length k row (j + 1) := hstep (fun h => by omega) (fun _ rb' h => by rw [hrb] at h; injection h with h; subst h; exact hy)
                        clear hstep
                        have Hxj := Lib.hid hxj
                        have Hc := Lib.hid hc
                        have Hst := Lib.hid hst
                        have Hrb := Lib.hid hrb
                        have Hlb := Lib.hid hlb
                        have Hy := Lib.hid hy
                        clear hxj hc hst hrb hlb hy
                        go_wp2_with fail
                        refine (calls_v (l01In_c _ _ _ _) (congrArg Value.bool Hc.out)).mono ?_
                        rintro e w3 ⟨rfl, hq⟩
                        have hcb3 := hq.keep _ _ hcb'
                        have hcy3 := hq.keep _ _ hcy
                        have Hq3 := Lib.hid hq
                        clear hq
                        go_wp2
                        go_roundw
                        case rel => exact ⟨j + 1, by omega, by go_num, Hst.out, Hd2.out.trans Hq3.out⟩
                        case measure => simp [intOf]; omega
                      · have hne : (x != y) = true := by simpa using hxy
                        have hbad : ¬ Dist far.length far := fun h => by
                          have := h.2 k row Hx.out j rb x hrb hxj
                          rw [hy] at this; injection this with this; exact hxy this.symm
                        clear hstep
                        have Hxj := Lib.hid hxj
                        have Hc := Lib.hid hc
                        have Hbad := Lib.hid hbad
                        have Hrb := Lib.hid hrb
                        have Hlb := Lib.hid hlb
                        have Hy := Lib.hid hy
                        have Hxy := Lib.hid hxy
                        clear hxj hc hbad hrb hlb hy hxy
                        go_wp2_with fail
                        refine (calls_v (l01In_c _ _ _ _) (congrArg Value.bool Hc.out)).mono ?_
                        rintro e w3 ⟨rfl, hq⟩
                        have hcb3 := hq.keep _ _ hcb'
                        have hcy3 := hq.keep _ _ hcy
                        have Hq3 := Lib.hid hq
                        clear hq
                        go_wp2
                        go_ret
                        exact ⟨ret_bool (HF.out Hbad.out).symm, Htr.out.trans Hq3.out⟩
                    · have hlt' : ¬ (j : Int) < (k : Int) := by omega
                      have hst : RowS far far.length k row (j + 1) := hstep (fun h => by omega) (fun h => by omega)
                      clear hstep
                      have Hxj := Lib.hid hxj
                      have Hc := Lib.hid hc
                      have Hst := Lib.hid hst
                      clear hxj hc hst
                      go_wp2_with fail
                      refine (calls_v (l01In_c _ _ _ _) (congrArg Value.bool Hc.out)).mono ?_
                      rintro e w3 ⟨rfl, hq⟩
                      have Hq3 := Lib.hid hq
                      clear hq
                      go_wp2
                      go_roundw
                      case rel => exact ⟨j + 1, by omega, by go_num, Hst.out, Hd2.out.trans Hq3.out⟩
                      case measure => simp [intOf]; omega
              · obtain rfl : j = far.length := by omega
                have hin4 : ∀ a row, a < k + 1 → far[a]? = some row → row.length = far.length ∧ RowS far far.length a row far.length := fun a row' h h' => by
                  rcases Nat.lt_succ_iff_lt_or_eq.1 h with h | rfl
                  · exact Hin.out a row' h h'
                  · rw [Hx.out] at h'; injection h' with h'; subst h'
                    exact ⟨hlen, Hrs.out⟩
                have Hin4 := Lib.hid hin4
                clear hin4
                go_wp2
                go_roundw
                case rel => exact ⟨k + 1, by omega, by go_num, Hin4.out, Htr.out⟩
                case measure => simp [intOf]; omega
          · have hne : ((row.length : Int) != (far.length : Int)) = true := by simp; omega
            have hbad : ¬ Dist far.length far := fun h => hlen (h.1 k row hx).1
            have Hx := Lib.hid hx
            have Hia := Lib.hid hia
            have Hlen := Lib.hid hlen
            have Hbad := Lib.hid hbad
            clear hx hia hlen hbad
            go_wp2
            go_ret
            exact ⟨ret_bool (HF.out Hbad.out).symm, Hd.out⟩
        · obtain rfl : k = far.length := by omega
          go_wp2
          go_ret
          exact ⟨ret_bool (HS.out (dist_of fun a row h => Hin.out a row (lt_of h) h)).symm, Hd.out⟩
    · have hne : ((far.length : Int) != n) = true := by simpa using h2
      have HF : Hid (false = R) := Lib.hid (by rw [← HR.out]; simp [distOk, h2])
      have H1 := Lib.hid h1
      have H2 := Lib.hid h2
      clear h1 h2
      go_enter Try.func14, Try.ntmps14
      go_wp2_with fail
      refine (calls_v (l16Size_c _ _) (congrArg Value.bool H1.out)).mono ?_
      rintro e w1 ⟨rfl, hq⟩
      go_wp2
      go_ret
      exact ⟨ret_bool HF.out, hq⟩
end Go.Proofs.Ytgfaeoceipippaa
