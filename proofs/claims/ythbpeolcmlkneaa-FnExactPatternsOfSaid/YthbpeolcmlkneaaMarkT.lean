/- Contracts of the laws' helpers that mark strings and look whether the marks still stand: with the very texts. -/
import Derived.Test.YthbpeolcmlkneaaStrs
import Derived.Test.YthbpeolcmlkneaaVenues
import Derived.Test.YthbpeolcmlkneaaPast
import Derived.Test.YthbpeolcmlkneaaBase3
namespace Go.Proofs.Ythbpeolcmlkneaa
open Go.RowKit

def markLoop : Nat → Nat → ByteArray → ByteArray
  | 0, _, s => s
  | f + 1, m, s => if 0 < m then markLoop f (m / 10) (strOfNums [48 + ((m % 10 : Nat) : Int)] ++ s) else s
theorem markLoop_zero (f : Nat) (s : ByteArray) : markLoop f 0 s = s := by cases f <;> simp [markLoop]
def markT (k : Nat) : ByteArray := if k = 0 then ⟨#[109, 48]⟩ else ⟨#[109]⟩ ++ markLoop k k ⟨#[]⟩
def marksFrom (k0 : Nat) : Nat → List ByteArray
  | 0 => []
  | n + 1 => markT k0 :: marksFrom (k0 + 1) n
theorem marksFrom_length : ∀ (n k0 : Nat), (marksFrom k0 n).length = n
  | 0, _ => rfl
  | n + 1, k0 => by simp [marksFrom, marksFrom_length n]
theorem marksFrom_at : ∀ (n k0 k : Nat), k < n → (marksFrom k0 n)[k]? = some (markT (k0 + k))
  | 0, _, k, h => by omega
  | n + 1, k0, 0, _ => rfl
  | n + 1, k0, k + 1, h => by
    rw [marksFrom, List.getElem?_cons_succ, marksFrom_at n (k0 + 1) k (by omega), show k0 + 1 + k = k0 + (k + 1) from by omega]

set_option maxRecDepth 100000 in
set_option maxHeartbeats 1000000 in
theorem markTextT_c (k : Nat) (w : World) (hk : k ≤ 100000000) : Calls Try.prog 54 #[.int .i64 k] w (Gives w (.string (markT k))) := by
  by_cases h0 : k = 0
  · subst h0
    go_enter Try.func54, Try.ntmps54
    go_wp2
    go_ret
    exact ⟨rfl, Below.refl _ _⟩
  · have hk0 : ¬ (k : Int) ≤ 0 := by omega
    obtain ⟨R, hR⟩ : ∃ R, markLoop k k ⟨#[]⟩ = R := ⟨_, rfl⟩
    have hRT : markT k = ⟨#[109]⟩ ++ R := by rw [markT, if_neg h0, hR]
    rw [hRT]
    clear hRT
    have HR := Lib.hid hR
    clear hR
    go_enter Try.func54, Try.ntmps54
    go_wp2
    go_loopw [0, 3] (fun n o wr => ∃ (f m : Nat) (s : ByteArray), m ≤ f ∧ m ≤ 100000000 ∧ n = .int .i64 m ∧ o = .string s ∧ s.size + m ≤ 100000000 ∧ markLoop f m s = R ∧ Below w.heap.size w wr) (fun n _ _ => (intOf n).toNat)
    case atStart => exact ⟨k, k, _, Nat.le_refl _, hk, rfl, rfl, by rw [show (ByteArray.mk #[]).size = 0 from rfl]; omega, HR.out, Below.refl _ _⟩
    case round =>
      obtain ⟨f, m, s, hf, hm, rfl, rfl, hs, hS, hd⟩ := hrel
      have Hd := Lib.hid hd
      have HS := Lib.hid hS
      clear hd hS
      by_cases hm0 : 0 < m
      · obtain ⟨f, rfl⟩ : ∃ f', f = f' + 1 := ⟨f - 1, by omega⟩
        obtain ⟨r, hr⟩ : ∃ r, m % 10 = r := ⟨_, rfl⟩
        have hr10 : r < 10 := by omega
        have e1 : (m : Int).tmod 10 = (r : Int) := by rw [Int.tmod_eq_emod_of_nonneg (by omega)]; omega
        obtain ⟨q, hq⟩ : ∃ q, m / 10 = q := ⟨_, rfl⟩
        have hq1 : q < m := by omega
        have e2 : (m : Int).tdiv 10 = (q : Int) := by rw [Int.tdiv_eq_ediv_of_nonneg (by omega)]; omega
        have hcv := run_convert_bytes_arg (P := Try.prog) (wr.alloc (.cells #[.int .u8 (48 + (r : Int))] 5)) 35 5 Try.underlying35 Try.underlying5 wr.heap.size 0 1 1 [48 + (r : Int)] (by simp) (fun i hi => by
          obtain rfl : i = 0 := by omega
          simp) 9 Try.underlying9
        obtain ⟨b, hb⟩ : ∃ b, strOfNums [48 + (r : Int)] = b := ⟨_, rfl⟩
        have HS1 : Hid (markLoop f q (b ++ s) = R) := Lib.hid (by have := HS.out; rwa [markLoop, if_pos hm0, hr, hq, hb] at this)
        rw [hb] at hcv
        have hbs : b.size = 1 := by rw [← hb]; rfl
        have hbs1 : b.size ≤ 1 := by omega
        have Hsz : Hid ((b ++ s).size + q ≤ 100000000) := Lib.hid (by rw [ByteArray.size_append]; omega)
        have Hd2 := Lib.hid (Hd.out.trans (((Below.refl wr.heap.size wr).alloc (Nat.le_refl _) (.cells #[.int .u8 (48 + (r : Int))] 5)).mono Hd.out.size))
        have Hr := Lib.hid hr
        have Hq := Lib.hid hq
        have Hb := Lib.hid hb
        have Hbs := Lib.hid hbs
        clear hr hq hb hbs
        go_wp2
        go_roundw
        case rel => exact ⟨f, q, b ++ s, by omega, by omega, rfl, rfl, Hsz.out, HS1.out, Hd2.out⟩
        case measure => simp [intOf]; omega
      · obtain rfl : m = 0 := by omega
        have HS1 : Hid (s = R) := Lib.hid (by have := HS.out; rwa [markLoop_zero] at this)
        go_wp2
        go_ret
        exact ⟨by rw [HS1.out]; rfl, Hd.out⟩

set_option maxHeartbeats 1000000 in
theorem markStringST_c (lo hi : Nat) (A : Option Addr) (c : Nat) (ss : List ByteArray) (k0 : Nat) (w : World) (ha : Own 9 lo hi w A c (ss.map .string)) (hm : ss.length ≤ 1048576) (h1 : k0 ≤ 1048576) (hsz : hi ≤ w.heap.size) :
    Calls Try.prog 28 #[.slice A ss.length c, .int .i64 k0] w fun e w' => e = .returned (.int .i64 ((k0 : Int) + (ss.length : Int))) ∧ Own 9 lo hi w' A c ((marksFrom k0 ss.length).map .string) ∧ Only lo hi w w' := by
  generalize hR : (k0 : Int) + (ss.length : Int) = R
  have HR := Lib.hid hR
  clear hR
  obtain ⟨n, hn⟩ : ∃ n, ss.length = n := ⟨_, rfl⟩
  rw [hn] at hm ⊢
  have Hn := Lib.hid hn
  have Ha := Lib.hid ha
  clear hn ha
  go_enter Try.func28, Try.ntmps28
  go_wp2
  go_loopw [1, 5] (fun m i wr => ∃ k : Nat, k ≤ n ∧ i = .int .i64 k ∧ m = .int .i64 ((k0 : Int) + k) ∧ Own 9 lo hi wr A c (((marksFrom k0 n).map Value.string).take k ++ (ss.map .string).drop k) ∧ Only lo hi w wr ∧ hi ≤ wr.heap.size) (fun _ i _ => n - (intOf i).toNat)
  case atStart => exact ⟨0, Nat.zero_le _, rfl, by simp, by simpa using Ha.out, Only.refl .., hsz⟩
  case round =>
    obtain ⟨k, hk, rfl, rfl, ho, hb, hz⟩ := hrel
    have Ho := Lib.hid ho
    have Hb := Lib.hid hb
    clear ho hb
    by_cases hlt : k < n
    · obtain ⟨u, hu⟩ := some_of (l := ss) (k := k) (by rw [Hn.out]; exact hlt)
      have hki : (k : Int) < (n : Int) := by omega
      have hmt := markTextT_c (k0 + k) wr (by omega)
      rw [Int.natCast_add] at hmt
      have hfa : (((marksFrom k0 n).map Value.string).take k ++ (ss.map .string).drop k)[k]? = some (.string u) := by rw [fill_at (by simp [marksFrom_length]; omega)]; exact map_some hu
      obtain ⟨g, rfl, hg1, hg2, _, _⟩ := Ho.out.at_ hfa
      have hst := fill_step (new := (marksFrom k0 n).map Value.string) (old := ss.map Value.string) (k := k) (map_some (marksFrom_at n k0 k hlt)) (by rw [List.length_map, Hn.out]; exact hlt)
      have Hu := Lib.hid hu
      have Hmt := Lib.hid hmt
      have Hfa := Lib.hid hfa
      have Hst := Lib.hid hst
      clear hu hmt hfa hst
      go_wp2_with fail
      refine Hmt.out.mono ?_
      rintro e w2 ⟨rfl, hb2⟩
      have hou2 := Ho.out.below (hb2.mono hz)
      have hon2 : Only lo hi w w2 := Hb.out.trans (only_of_below hb2 (Nat.le_refl _))
      have hz2 : hi ≤ w2.heap.size := Nat.le_trans hz hb2.size
      obtain ⟨g', e', _, _, hcb, hfb⟩ := hou2.at_ Hfa.out
      obtain rfl : g = g' := by injection e' with e'; injection e'
      have ho3 := hou2.set_ k (.string (markT (k0 + k)))
      rw [Hst.out] at ho3
      have hon3 := hon2.setCell (g := g) (k := k) hg1 hg2 (.string (markT (k0 + k)))
      have hz3 : hi ≤ (w2.setCell ⟨g, k, none⟩ (.string (markT (k0 + k)))).heap.size := by rw [setCell_size]; exact hz2
      have Ho3 := Lib.hid ho3
      have Hon3 := Lib.hid hon3
      clear ho3 hon3
      clear hou2 hon2 e' hb2
      go_wp2
      go_roundw
      case rel => exact ⟨k + 1, by omega, by go_num, by go_num, Ho3.out, Hon3.out, hz3⟩
      case measure => simp [intOf]; omega
    · obtain rfl : k = n := by omega
      have ho3 := Ho.out
      rw [List.take_of_length_le (by simp [marksFrom_length]), List.drop_eq_nil_of_le (by rw [List.length_map, Hn.out]; exact Nat.le_refl _), List.append_nil] at ho3
      have Ho3 := Lib.hid ho3
      clear ho3
      go_wp2
      go_ret
      exact ⟨ret_int (by rw [← HR.out, Hn.out]), Ho3.out, Hb.out⟩

set_option maxHeartbeats 1000000 in
theorem heldStringS_c (A : Option Addr) (c n : Nat) (k0 : Nat) (w : World) (ha : Strs w A (marksFrom k0 n)) (hm : n ≤ 1048576) (h1 : k0 ≤ 1048576) :
    Calls Try.prog 29 #[.slice A n c, .int .i64 k0] w (Gives w (.int .i64 ((k0 : Int) + (n : Int)))) := by
  generalize hR : (k0 : Int) + (n : Int) = R
  have HR := Lib.hid hR
  clear hR
  have Ha := Lib.hid ha
  clear ha
  go_enter Try.func29, Try.ntmps29
  go_wp2
  go_loopw [1, 5] (fun m i wr => ∃ k : Nat, k ≤ n ∧ i = .int .i64 k ∧ m = .int .i64 ((k0 : Int) + k) ∧ Below w.heap.size w wr) (fun _ i _ => n - (intOf i).toNat)
  case atStart => exact ⟨0, Nat.zero_le _, rfl, by simp, Below.refl _ _⟩
  case round =>
    obtain ⟨k, hk, rfl, rfl, hd⟩ := hrel
    have Hd := Lib.hid hd
    clear hd
    by_cases hlt : k < n
    · have hki : (k : Int) < (n : Int) := by omega
      obtain ⟨ad, rfl, hcv⟩ := (Ha.out.keep (keep_of_below Hd.out)) k _ (marksFrom_at n k0 k hlt)
      obtain ⟨T, hT⟩ : ∃ T, markT (k0 + k) = T := ⟨_, rfl⟩
      rw [hT] at hcv
      have hc1 := fun x : Past wr => Past.cell hcv x
      have hmt : ∀ W, Calls Try.prog 54 #[.int .i64 ((k0 : Int) + (k : Int))] W (Gives W (.string T)) := fun W => by
        have := markTextT_c (k0 + k) W (by omega)
        rwa [Int.natCast_add, hT] at this
      have hne : (T.toList != T.toList) = false := by simp
      have Hmt := Lib.hid hmt
      have HT := Lib.hid hT
      clear hmt hT
      clear hcv
      go_wp2
      refine wp_region_past (by kernel_rfl) (by kernel_rfl) ?_
      repeat (go_big_quiet_step ((go_at_call 54; exact past_gives (Hmt.out _))))
      refine wpQuiet_nil ?_
      intro wx hwx
      obtain ⟨⟨wy, hbx⟩, hw⟩ := hwx
      change wx = wy at hw
      subst hw
      have hd2 := Hd.out.trans (hbx.mono Hd.out.size)
      have Hd2 := Lib.hid hd2
      clear hd2
      go_wp2
      go_roundw
      case rel => exact ⟨k + 1, by omega, by go_num, by go_num, Hd2.out⟩
      case measure => simp [intOf]; omega
    · obtain rfl : k = n := by omega
      go_wp2
      go_ret
      exact ⟨ret_int HR.out, Hd.out⟩

theorem markStringS1_c (lo hi : Nat) (A : Option Addr) (c : Nat) (ss : List ByteArray) (w : World) (ha : Own 9 lo hi w A c (ss.map .string)) (hm : ss.length ≤ 1048576) (hsz : hi ≤ w.heap.size) :
    Calls Try.prog 28 #[.slice A ss.length c, .int .i64 1] w fun e w' => e = .returned (.int .i64 (1 + (ss.length : Int))) ∧ Own 9 lo hi w' A c ((marksFrom 1 ss.length).map .string) ∧ Only lo hi w w' :=
  markStringST_c lo hi A c ss 1 w ha hm (by omega) hsz
theorem heldStringS1_c (A : Option Addr) (c n : Nat) (w : World) (ha : Strs w A (marksFrom 1 n)) (hm : n ≤ 1048576) :
    Calls Try.prog 29 #[.slice A n c, .int .i64 1] w (Gives w (.int .i64 (1 + (n : Int)))) :=
  heldStringS_c A c n 1 w ha hm (by omega)
theorem givesS_v {P : Program} {f : FuncId} {args : Array Value} {w : World} {T : TypeId} {xs ys : List ByteArray} (h : Calls P f args w (GivesS T w xs)) (e : xs = ys) : Calls P f args w (GivesS T w ys) := by rw [← e]; exact h
end Go.Proofs.Ythbpeolcmlkneaa
