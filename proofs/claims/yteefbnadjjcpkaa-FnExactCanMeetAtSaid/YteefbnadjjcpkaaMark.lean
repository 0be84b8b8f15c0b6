/- Contracts: strings written over a slice of strings, by the laws' own helper. -/
import Derived.Test.YteefbnadjjcpkaaStrs
import Derived.Test.YteefbnadjjcpkaaBase3
namespace Go.Proofs.Yteefbnadjjcpkaa
open Go.RowKit

def OwnAny (T : TypeId) (lo hi : Nat) (w : World) (A : Option Addr) (c n : Nat) : Prop := ∃ us : List Value, us.length = n ∧ Own T lo hi w A c us
theorem OwnAny.below {T : TypeId} {lo hi : Nat} {w w' : World} {A : Option Addr} {c n : Nat} (h : OwnAny T lo hi w A c n) (k : Below hi w w') : OwnAny T lo hi w' A c n := by
  obtain ⟨us, e, ho⟩ := h; exact ⟨us, e, ho.below k⟩
theorem OwnAny.only {T : TypeId} {lo hi lo' hi' : Nat} {w w' : World} {A : Option Addr} {c n : Nat} (h : OwnAny T lo hi w A c n) (k : Only lo' hi' w w') (hs : hi ≤ w.heap.size) (hd : hi ≤ lo' ∨ hi' ≤ lo) : OwnAny T lo hi w' A c n := by
  obtain ⟨us, e, ho⟩ := h; exact ⟨us, e, ho.only k hs hd⟩

/-- Some string comes back; what was there stays. -/
def SomeStr (w : World) (e : Ending) (w' : World) : Prop := ∃ s, e = .returned (.string s) ∧ Below w.heap.size w w'

set_option maxRecDepth 100000 in
set_option maxHeartbeats 1000000 in
theorem markText_c (k : Nat) (w : World) (hk : k ≤ 100000000) : Calls Try.prog 51 #[.int .i64 k] w (SomeStr w) := by
  by_cases h0 : k = 0
  · subst h0
    go_enter Try.func51, Try.ntmps51
    go_wp2
    go_ret
    exact ⟨_, rfl, Below.refl _ _⟩
  · have hk0 : ¬ (k : Int) ≤ 0 := by omega
    go_enter Try.func51, Try.ntmps51
    go_wp2
    go_loopw [0, 3] (fun n o wr => ∃ (m : Nat) (s : ByteArray), m ≤ 100000000 ∧ n = .int .i64 m ∧ o = .string s ∧ s.size + m ≤ 100000000 ∧ Below w.heap.size w wr) (fun n _ _ => (intOf n).toNat)
    case atStart => exact ⟨k, _, hk, rfl, rfl, by rw [show (ByteArray.mk #[]).size = 0 from rfl]; omega, Below.refl _ _⟩
    case round =>
      obtain ⟨m, s, hm, rfl, rfl, hs, hd⟩ := hrel
      have Hd := Lib.hid hd
      clear hd
      by_cases hm0 : 0 < m
      · obtain ⟨r, hr⟩ : ∃ r, m % 10 = r := ⟨_, rfl⟩
        have hr10 : r < 10 := by omega
        have e1 : (m : Int).tmod 10 = (r : Int) := by rw [Int.tmod_eq_emod_of_nonneg (by omega)]; omega
        obtain ⟨q, hq⟩ : ∃ q, m / 10 = q := ⟨_, rfl⟩
        have hq1 : q < m := by omega
        have e2 : (m : Int).tdiv 10 = (q : Int) := by rw [Int.tdiv_eq_ediv_of_nonneg (by omega)]; omega
        have hcv := run_convert_bytes_arg (P := Try.prog) (wr.alloc (.cells #[.int .u8 (48 + (r : Int))] 5)) 56 5 Try.underlying56 Try.underlying5 wr.heap.size 0 1 1 [48 + (r : Int)] (by simp) (fun i hi => by
          obtain rfl : i = 0 := by omega
          simp) 9 Try.underlying9
        obtain ⟨b, hb⟩ : ∃ b, strOfNums [48 + (r : Int)] = b := ⟨_, rfl⟩
        rw [hb] at hcv
        have hbs : b.size = 1 := by rw [← hb]; rfl
        have hbs1 : b.size ≤ 1 := by omega
        have Hsz : Hid ((b ++ s).size + q ≤ 100000000) := Lib.hid (by rw [ByteArray.size_append]; omega)
        have Hd2 := Lib.hid (Hd.out.trans (((Below.refl wr.heap.size wr).alloc (Nat.le_refl _) (.cells #[.int .u8 (48 + (r : Int))] 5)).mono Hd.out.size))
        have Hr := Lib.hid hr
        have Hq := Lib.hid hq
        have Hb := Lib.hid hb
        have Hbs := Lib.hid hbs
        clear hr hq hb hbs
        go_wp2
        go_roundw
        case rel => exact ⟨q, b ++ s, by omega, rfl, rfl, Hsz.out, Hd2.out⟩
        case measure => simp [intOf]; omega
      · obtain rfl : m = 0 := by omega
        go_wp2
        go_ret
        exact ⟨_, rfl, Hd.out⟩


set_option maxHeartbeats 1000000 in
theorem markStringS_c (lo hi : Nat) (A : Option Addr) (c : Nat) (ss : List ByteArray) (k0 : Int) (w : World) (ha : Own 9 lo hi w A c (ss.map .string)) (hm : ss.length ≤ 16777216) (h0 : 0 ≤ k0) (h1 : k0 ≤ 16777216) (hsz : hi ≤ w.heap.size) :
    Calls Try.prog 29 #[.slice A ss.length c, .int .i64 k0] w fun e w' => e = .returned (.int .i64 (k0 + ss.length)) ∧ OwnAny 9 lo hi w' A c ss.length ∧ Only lo hi w w' := by
  generalize hR : k0 + (ss.length : Int) = R
  have HR := Lib.hid hR
  clear hR
  obtain ⟨n, hn⟩ : ∃ n, ss.length = n := ⟨_, rfl⟩
  have hus : (ss.map Value.string).length = n := by rw [List.length_map]; exact hn
  have Ho := Lib.hid (⟨_, hus, ha⟩ : OwnAny 9 lo hi w A c n)
  rw [hn] at hm ⊢
  obtain ⟨k1, rfl⟩ := Int.eq_ofNat_of_zero_le h0
  clear ha hus
  have Hn := Lib.hid hn
  clear hn
  go_enter Try.func29, Try.ntmps29
  go_wp2
  go_loopw [1, 5] (fun m i wr => ∃ k : Nat, k ≤ n ∧ i = .int .i64 k ∧ m = .int .i64 ((k1 : Int) + k) ∧ OwnAny 9 lo hi wr A c n ∧ Only lo hi w wr ∧ hi ≤ wr.heap.size) (fun _ i _ => n - (intOf i).toNat)
  case atStart => exact ⟨0, Nat.zero_le _, rfl, by simp, Ho.out, Only.refl .., hsz⟩
  case round =>
    obtain ⟨k, hk, rfl, rfl, ho, hb, hz⟩ := hrel
    have Ho := Lib.hid ho
    have Hb := Lib.hid hb
    clear ho hb
    by_cases hlt : k < n
    · obtain ⟨us, hul, hou⟩ := Ho.out
      obtain ⟨u, hu⟩ := some_of (l := us) (k := k) (by omega)
      obtain ⟨g, rfl, hg1, hg2, _, _⟩ := hou.at_ hu
      have hki : (k : Int) < (n : Int) := by omega
      have hmt := markText_c (k1 + k) wr (by omega)
      rw [Int.natCast_add] at hmt
      have Hul := Lib.hid hul
      have Hou := Lib.hid hou
      have Hu := Lib.hid hu
      have Hmt := Lib.hid hmt
      clear hul hou hu hmt
      go_wp2_with fail
      refine Hmt.out.mono ?_
      rintro e w2 ⟨s, rfl, hb2⟩
      have hou2 := Hou.out.below (hb2.mono hz)
      have hon2 : Only lo hi w w2 := Hb.out.trans (only_of_below hb2 (Nat.le_refl _))
      have hz2 : hi ≤ w2.heap.size := Nat.le_trans hz hb2.size
      obtain ⟨g', e', _, _, hcb, hfb⟩ := hou2.at_ Hu.out
      obtain rfl : g = g' := by injection e' with e'; injection e'
      have ho3 := hou2.set_ k (.string s)
      have hon3 := hon2.setCell (g := g) (k := k) hg1 hg2 (.string s)
      have hul2 : (us.set k (.string s)).length = n := by rw [List.length_set]; exact Hul.out
      have hz3 : hi ≤ (w2.setCell ⟨g, k, none⟩ (.string s)).heap.size := by rw [setCell_size]; exact hz2
      have Ho3 := Lib.hid ho3
      have Hon3 := Lib.hid hon3
      have Hul2 := Lib.hid hul2
      clear ho3 hon3 hul2
      clear hou2 hon2 e' hb2
      go_wp2
      go_roundw
      case rel => exact ⟨k + 1, by omega, by go_num, by go_num, ⟨_, Hul2.out, Ho3.out⟩, Hon3.out, hz3⟩
      case measure => simp [intOf]; omega
    · obtain rfl : k = n := by omega
      go_wp2
      go_ret
      exact ⟨ret_int (by rw [← HR.out, Hn.out]), Ho.out, Hb.out⟩

end Go.Proofs.Yteefbnadjjcpkaa
