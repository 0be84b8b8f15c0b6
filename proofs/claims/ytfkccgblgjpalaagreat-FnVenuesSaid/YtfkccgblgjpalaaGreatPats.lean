
/- Contracts: when patterns are valid, and whether they differ (program and reference). -/
import Derived.Test.YtfkccgblgjpalaaGreatPat
import Derived.Test.YtfkccgblgjpalaaGreatStrs
import Derived.Test.YtfkccgblgjpalaaGreatScan
import Derived.Shelf.Abstract
namespace Go.Proofs.YtfkccgblgjpalaaGreat
open Go.RowKit

def fits (n : Nat) (p : ByteArray) : Bool := patOk p && decide (p.size = n)
def patsOk (ss : List ByteArray) : Bool := isClubsB ss.length && ss.all (fits (ss.headD ByteArray.empty).size)
theorem below_dr {B : Nat} {a b c : World} (h : Below B a b) (k : Dr b c) : Below B a c := h.trans (k.below _)

/-- A predicate on strings: in whatever world that lies draws behind w it answers, and draws alone. -/
def PredS (g : Nat) (lb : Array Value) (p : ByteArray → Bool) (w : World) : Prop := ∀ (W : World) (x : ByteArray), Dr w W → Calls Tryz.prog g (#[.string x] ++ lb) W (Quiet W (.bool (p x)))

set_option maxHeartbeats 400000 in
theorem indexFS_c (g : Nat) (lb : Array Value) (p : ByteArray → Bool) (A : Option Addr) (c : Nat) (xs : List ByteArray) (w : World) (eg : ∀ args w, (callFunc g args).run Tryz.prog w = .ok (.enter g args) w)
    (hp : PredS g lb p w) (ha : Strs w A xs) (hm : xs.length ≤ 1048576) :
    Calls Tryz.prog 70 #[.slice A xs.length c, .func (.func g) #[] lb] w (Quiet w (.int .i64 (idxFrom p 0 xs))) := by
  generalize hR : idxFrom p 0 xs = R
  have HR := Lib.hid hR
  clear hR
  have Ha := Lib.hid ha
  have Hp := Lib.hid hp
  clear ha hp
  go_enter Tryz.func70, Tryz.ntmps70
  go_wp2
  go_loopw [5, 8] (fun _ i wr => ∃ k : Nat, k ≤ xs.length ∧ i = .int .i64 k ∧ idxFrom p k (xs.drop k) = R ∧ Dr w wr) (fun _ i _ => xs.length - (intOf i).toNat)
  case atStart => exact ⟨0, Nat.zero_le _, rfl, HR.out, Dr.refl _⟩
  case round =>
    obtain ⟨k, hk, rfl, hS, hd⟩ := hrel
    have HS := Lib.hid hS
    have Hd := Lib.hid hd
    clear hS hd
    by_cases hlt : k < xs.length
    · obtain ⟨v, hv⟩ := some_of hlt
      obtain ⟨ad, rfl, hca⟩ := Ha.out.keep Hd.out.keep k v hv
      have hcall := Hp.out wr v Hd.out
      cases hpv : p v
      · have HS2 : Hid (idxFrom p (k + 1) (xs.drop (k + 1)) = R) := Lib.hid (by have := HS.out; rw [drop_of hv, idxFrom, hpv] at this; exact this)
        rw [hpv] at hcall
        have Hv := Lib.hid hv
        have Hpv := Lib.hid hpv
        clear hv hpv
        go_wp2_with fail
        refine hcall.mono ?_
        rintro e w1 ⟨rfl, q, rfl⟩
        go_wp2
        go_roundw
        case rel => exact ⟨k + 1, by omega, by go_num, HS2.out, Hd.out.dN _⟩
        case measure => simp [intOf]; omega
      · have HS2 : Hid ((k : Int) = R) := Lib.hid (by have := HS.out; rw [drop_of hv, idxFrom, hpv] at this; exact this)
        rw [hpv] at hcall
        have Hv := Lib.hid hv
        have Hpv := Lib.hid hpv
        clear hv hpv
        go_wp2_with fail
        refine hcall.mono ?_
        rintro e w1 ⟨rfl, q, rfl⟩
        go_wp2
        go_ret
        exact ⟨ret_int HS2.out, Hd.out.dN _⟩
    · obtain rfl : k = xs.length := by omega
      go_wp2
      go_ret
      exact ⟨ret_int (by have := HS.out; rwa [List.drop_length, idxFrom] at this), Hd.out⟩

set_option maxHeartbeats 400000 in
theorem containsFS_c (g : Nat) (lb : Array Value) (p : ByteArray → Bool) (A : Option Addr) (c : Nat) (xs : List ByteArray) (w : World) (eg : ∀ args w, (callFunc g args).run Tryz.prog w = .ok (.enter g args) w)
    (hp : PredS g lb p w) (ha : Strs w A xs) (hm : xs.length ≤ 1048576) :
    Calls Tryz.prog 53 #[.slice A xs.length c, .func (.func g) #[] lb] w (Quiet w (.bool (xs.any p))) := by
  have HR := Lib.hid (idxFrom_any p xs 0)
  generalize hv : idxFrom p 0 xs = v at HR
  generalize xs.any p = R at HR
  have hc := calls_v (indexFS_c g lb p A c xs w eg hp ha hm) (congrArg (Value.int .i64) hv)
  have Hc := Lib.hid hc
  clear hc
  clear hp ha hv
  go_enter Tryz.func53, Tryz.ntmps53
  go_wp2_with fail
  refine Hc.out.mono ?_
  rintro e w1 ⟨rfl, hq⟩
  go_wp2
  go_ret
  exact ⟨ret_bool HR.out, hq⟩

set_option maxHeartbeats 1000000 in
theorem patsF_c (x s0 : ByteArray) (p : Addr) (A : Option Addr) (n c : Nat) (W : World) (h1 : W.cell? p = some (.slice A n c)) (hn : 0 < n) (hs : ∃ ad, A = some ad ∧ W.cell? ad = some (.string s0)) :
    Calls Tryz.prog 54 #[.string x, .pointer (some p)] W (Quiet W (.bool (!fits s0.size x))) := by
  generalize hR : fits s0.size x = R
  have HR := Lib.hid hR
  clear hR
  obtain ⟨ad, rfl, hcs⟩ := hs
  have hn' : (0 : Int) < (n : Int) := by omega
  cases h2 : patOk x
  · have HS : Hid (false = R) := Lib.hid (by rw [← HR.out]; simp [fits, h2])
    have H2 := Lib.hid h2
    clear h2
    go_enter Tryz.func54, Tryz.ntmps54
    go_wp2_with fail
    refine (calls_v (iPatternOk_c _ _) (congrArg Value.bool H2.out)).mono ?_
    rintro e w1 ⟨rfl, hq⟩
    go_wp2
    go_ret
    exact ⟨by rw [← HS.out]; rfl, hq⟩
  · by_cases h3 : x.size = s0.size
    · have h3' : ((x.size : Int) != (s0.size : Int)) = false := by simp [h3]
      have HS : Hid (true = R) := Lib.hid (by rw [← HR.out]; simp [fits, h2, h3])
      have H2 := Lib.hid h2
      have H3 := Lib.hid h3
      clear h2 h3
      go_enter Tryz.func54, Tryz.ntmps54
      go_wp2_with fail
      refine (calls_v (iPatternOk_c _ _) (congrArg Value.bool H2.out)).mono ?_
      rintro e w1 ⟨rfl, hq⟩
      have k1 := hq.keep _ _ h1
      have k2 := hq.keep _ _ hcs
      have Hq := Lib.hid hq
      clear hq
      go_wp2
      go_ret
      exact ⟨by rw [← HS.out]; rfl, Hq.out⟩
    · have h3' : ((x.size : Int) != (s0.size : Int)) = true := by rw [bne_iff_ne]; omega
      have HS : Hid (false = R) := Lib.hid (by rw [← HR.out]; simp [fits, h3])
      have H2 := Lib.hid h2
      have H3 := Lib.hid h3
      clear h2 h3
      go_enter Tryz.func54, Tryz.ntmps54
      go_wp2_with fail
      refine (calls_v (iPatternOk_c _ _) (congrArg Value.bool H2.out)).mono ?_
      rintro e w1 ⟨rfl, hq⟩
      have k1 := hq.keep _ _ h1
      have k2 := hq.keep _ _ hcs
      have Hq := Lib.hid hq
      clear hq
      go_wp2
      go_ret
      exact ⟨by rw [← HS.out]; rfl, Hq.out⟩

set_option maxHeartbeats 1000000 in
theorem iPatternsOk_c (A : Option Addr) (c : Nat) (ss : List ByteArray) (w : World) (ha : Strs w A ss) (hm : ss.length ≤ 1048576) :
    Calls Tryz.prog 25 #[.slice A ss.length c] w (Gives w (.bool (patsOk ss))) := by
  generalize hR : patsOk ss = R
  have HR := Lib.hid hR
  clear hR
  have hmf : ∀ (fn : Fn) (first cap : Array Value) (w : World), (Instr.makeFunc fn first cap).run Tryz.prog w = .ok (.func fn first cap) w := fun _ _ _ _ => rfl
  have hbx : Below w.heap.size w (w.alloc (.cells #[.slice A ss.length c] 31)) := (Below.refl _ w).alloc (Nat.le_refl _) _
  have hcw : (w.alloc (.cells #[.slice A ss.length c] 31)).cell? ⟨w.heap.size, 0, none⟩ = some (.slice A ss.length c) := by simp
  have ha2 := ha.keep (keep_of_below hbx)
  have Ha2 := Lib.hid ha2
  have Hbx := Lib.hid hbx
  clear ha2 hbx
  clear ha
  cases h1 : isClubsB ss.length
  · have HS : Hid (false = R) := Lib.hid (by rw [← HR.out]; simp [patsOk, h1])
    have H1 := Lib.hid h1
    clear h1
    go_enter Tryz.func25, Tryz.ntmps25
    go_wp2_with fail
    generalize w.alloc (.cells #[.slice A ss.length c] 31) = wB at hcw Hbx Ha2 ⊢
    refine (calls_v (isClubs_c _ _) (congrArg Value.bool H1.out)).mono ?_
    rintro e w1 ⟨rfl, hq⟩
    go_wp2
    go_ret
    exact ⟨ret_bool HS.out, below_dr Hbx.out hq⟩
  · have hn := isClubs_true h1
    obtain ⟨s0, hs0⟩ := some_of (l := ss) (k := 0) (by omega)
    have hh : (ss.headD ByteArray.empty) = s0 := by cases ss with
      | nil => simp at hs0
      | cons a l => simpa using hs0
    have HS : Hid ((!ss.any (fun x => !fits s0.size x)) = R) := Lib.hid (by rw [← HR.out, patsOk, h1, hh]; simp [List.not_any_eq_all_not])
    have hn0 : 0 < ss.length := by omega
    have H1 := Lib.hid h1
    have Hh := Lib.hid hh
    clear h1 hh
    go_enter Tryz.func25, Tryz.ntmps25
    go_wp2_with fail
    generalize w.alloc (.cells #[.slice A ss.length c] 31) = wB at hcw Hbx Ha2 ⊢
    refine (calls_v (isClubs_c _ _) (congrArg Value.bool H1.out)).mono ?_
    rintro e w1 ⟨rfl, hq⟩
    have Hs1 := Lib.hid (Ha2.out.keep hq.keep)
    have k1 := hq.keep _ _ hcw
    have Hb1 := Lib.hid (below_dr Hbx.out hq)
    clear hq
    have hcon := containsFS_c 54 #[.pointer (some ⟨w.heap.size, 0, none⟩)] (fun x => !fits s0.size x) A c ss w1 (enters_of Tryz.func54 (by kernel_rfl) rfl)
      (fun W x hd => patsF_c x s0 _ A ss.length c W (hd.keep _ _ k1) hn0 (by
        obtain ⟨ad, e, hc⟩ := Hs1.out.keep hd.keep 0 s0 hs0
        rw [Addr.add_zero'] at hc
        exact ⟨ad, e, hc⟩)) Hs1.out hm
    have Hcon := Lib.hid hcon
    have Hs0 := Lib.hid hs0
    clear hcon hs0
    go_wp2_with fail
    refine Hcon.out.mono ?_
    rintro e w2 ⟨rfl, hq2⟩
    go_wp2
    go_ret
    exact ⟨ret_bool HS.out, below_dr Hb1.out hq2⟩

end Go.Proofs.YtfkccgblgjpalaaGreat
