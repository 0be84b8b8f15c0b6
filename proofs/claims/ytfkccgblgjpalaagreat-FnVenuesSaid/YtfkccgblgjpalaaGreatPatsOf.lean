
/- Contracts: where every club plays in a plan, as strings (program and reference). -/
import Derived.Test.YtfkccgblgjpalaaGreatStrs
import Derived.Test.YtfkccgblgjpalaaGreatVenues
import Derived.Test.YtfkccgblgjpalaaGreatTurn
namespace Go.Proofs.YtfkccgblgjpalaaGreat
open Go.RowKit

def patsFrom (n : Int) (plan : List (List Int)) : Nat → Nat → List ByteArray
  | 0, _ => []
  | f + 1, k => venues n plan k :: patsFrom n plan f (k + 1)
def patsF (n : Int) (plan : List (List Int)) : List ByteArray := if planOk n plan = true then patsFrom n plan n.toNat 0 else []
theorem patsFrom_length (n : Int) (plan : List (List Int)) : ∀ (f k : Nat), (patsFrom n plan f k).length = f
  | 0, _ => rfl
  | f + 1, k => by simp [patsFrom, patsFrom_length n plan f]
theorem patsFrom_at (n : Int) (plan : List (List Int)) : ∀ (f k j : Nat), j < f → (patsFrom n plan f k)[j]? = some (venues n plan ((k + j : Nat) : Int))
  | 0, _, _, h => by omega
  | f + 1, k, 0, _ => rfl
  | f + 1, k, j + 1, h => by
    rw [patsFrom, List.getElem?_cons_succ, patsFrom_at n plan f (k + 1) j (by omega), show k + 1 + j = k + (j + 1) from by omega]

set_option maxHeartbeats 1000000 in
theorem iPatternsOf_c (n : Int) (A : Option Addr) (c : Nat) (plan : List (List Int)) (w : World) (ha : Rows w A plan) (hm : plan.length ≤ 1048576) :
    Calls Tryz.prog 12 #[.int .i64 n, .slice A plan.length c] w (GivesS 9 w (patsF n plan)) := by
  have Ha := Lib.hid ha
  clear ha
  cases h1 : planOk n plan
  · have hv : patsF n plan = [] := by rw [patsF, if_neg (by simp [h1])]
    rw [hv]
    have H1 := Lib.hid h1
    clear h1
    clear hv
    go_enter Tryz.func12, Tryz.ntmps12
    go_wp2_with fail
    refine (calls_v (iPlanOk_c _ _ _ _ _ Ha.out hm) (congrArg Value.bool H1.out)).mono ?_
    rintro e w1 ⟨rfl, hq⟩
    go_wp2
    go_ret
    exact ⟨none, 0, rfl, Own.nil .., hq.below _⟩
  · have hP := plan_of h1
    obtain ⟨m, rfl⟩ := Int.eq_ofNat_of_zero_le (show 0 ≤ n by have := hP.two; omega)
    have hm10 : m ≤ 10 := by have := hP.ten; omega
    obtain ⟨L, hL⟩ : ∃ L, patsF m plan = L := ⟨_, rfl⟩
    have hLl : L.length = m := by rw [← hL, patsF, if_pos h1, patsFrom_length]; rfl
    have hLa : ∀ k, k < m → L[k]? = some (venues m plan (k : Int)) := fun k hk => by rw [← hL, patsF, if_pos h1, patsFrom_at _ _ _ _ _ (by simpa using hk), Nat.zero_add]
    rw [hL]
    have H1 := Lib.hid h1
    have HP := Lib.hid hP
    have HL := Lib.hid hL
    have HLl := Lib.hid hLl
    have HLa := Lib.hid hLa
    clear h1 hP hL hLl hLa
    go_enter Tryz.func12, Tryz.ntmps12
    go_wp2_with fail
    refine (calls_v (iPlanOk_c _ _ _ _ _ Ha.out hm) (congrArg Value.bool H1.out)).mono ?_
    rintro e w1 ⟨rfl, hq⟩
    have Hq := Lib.hid hq
    clear hq
    go_wp2
    go_loopw [12, 5] (fun i v wr => ∃ (k : Nat) (B : Option Addr) (d : Nat), k ≤ m ∧ i = .int .i64 k ∧ v = .slice B k d ∧ Own 9 w.heap.size wr.heap.size wr B d ((L.map Value.string).take k) ∧ Below w.heap.size w wr) (fun i _ _ => m - (intOf i).toNat)
    case atStart => exact ⟨0, none, 0, Nat.zero_le _, rfl, rfl, by simpa using Own.nil .., Hq.out.below _⟩
    case round =>
      obtain ⟨k, B, d, hk, rfl, rfl, ho, hb⟩ := hrel
      have Ho := Lib.hid ho
      have Hb := Lib.hid hb
      clear ho hb
      by_cases hlt : k < m
      · have hki : (k : Int) < (m : Int) := by omega
        have hl : ((L.map Value.string).take k).length = k := by rw [List.length_take, List.length_map, HLl.out]; omega
        have hvc := iVenuesOf_c m A c plan (k : Int) wr (Ha.out.keep (keep_of_below Hb.out)) hm
        obtain ⟨s, hs⟩ : ∃ s, venues m plan (k : Int) = s := ⟨_, rfl⟩
        rw [hs] at hvc
        have hla := HLa.out k hlt
        rw [hs] at hla
        have Hl := Lib.hid hl
        have Hvc := Lib.hid hvc
        have Hs := Lib.hid hs
        have Hla := Lib.hid hla
        clear hl hvc hs hla
        go_wp2_with (first
          | (refine Hvc.out.mono ?_; rintro e w2 ⟨rfl, hb2⟩; have Hb2 := Lib.hid hb2; clear hb2)
          | (at_builtin; refine wpList_app1 rfl (.tmp 15) (.tmp 20) 31 rfl 9 (.string ByteArray.empty) 16 Tryz.underlying31 info_str rfl w.heap.size B d ((L.map Value.string).take k) ?_ ?_ (.string s) rfl ?_ ?_ k ?_ ?_ ?_ ?_; exact Ho.out.below (Hb2.out) |>.wide (Nat.le_refl _) Hb2.out.size; exact Nat.le_trans Hb.out.size Hb2.out.size; (rw [Hl.out]; omega); decide; exact Hl.out.symm; rfl; rfl; intro B2 d2 w' ho' hb' _ _; have Ho' := Lib.hid ho'; have Hb' := Lib.hid hb'; clear ho' hb'))
        go_wp2
        go_roundw
        case rel => exact ⟨k + 1, B2, d2, by omega, by go_num, rfl, by rw [take_of (map_some Hla.out)]; exact Ho'.out, (Hb.out.trans (Hb2.out.mono Hb.out.size)).trans Hb'.out⟩
        case measure => simp [intOf]; omega
      · obtain rfl : k = m := by omega
        have ho3 := Ho.out
        rw [List.take_of_length_le (by rw [List.length_map, HLl.out]; exact Nat.le_refl _)] at ho3
        have Ho3 := Lib.hid ho3
        clear ho3
        go_wp2
        go_ret
        exact ⟨B, d, by rw [HLl.out]; rfl, Ho3.out, Hb.out⟩
end Go.Proofs.YtfkccgblgjpalaaGreat
