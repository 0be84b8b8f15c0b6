/- Contracts: when patterns are valid, and whether they differ (program and reference). -/
import Derived.Test.YteefbnadjjcpkaaPat
import Derived.Test.YteefbnadjjcpkaaStrs
import Derived.Test.YteefbnadjjcpkaaScan
import Derived.Shelf.Abstract
namespace Go.Proofs.Yteefbnadjjcpkaa
open Go.RowKit

def fits (n : Nat) (p : ByteArray) : Bool := patOk p && decide (p.size = n)
def patsOk (ss : List ByteArray) : Bool := isClubsB ss.length && ss.all (fits (ss.headD ByteArray.empty).size)
theorem below_dr {B : Nat} {a b c : World} (h : Below B a b) (k : Dr b c) : Below B a c := h.trans (k.below _)

/-- A predicate on strings: in whatever world that lies draws behind w it answers, and draws alone. -/
def PredS (g : Nat) (lb : Array Value) (p : ByteArray → Bool) (w : World) : Prop := ∀ (W : World) (x : ByteArray), Dr w W → Calls Try.prog g (#[.string x] ++ lb) W (Quiet W (.bool (p x)))

set_option maxHeartbeats 400000 in
theorem indexFS_c (g : Nat) (lb : Array Value) (p : ByteArray → Bool) (A : Option Addr) (c : Nat) (xs : List ByteArray) (w : World) (eg : ∀ args w, (callFunc g args).run Try.prog w = .ok (.enter g args) w)
    (hp : PredS g lb p w) (ha : Strs w A xs) (hm : xs.length ≤ 1048576) :
    Calls Try.prog 61 #[.slice A xs.length c, .func (.func g) #[] lb] w (Quiet w (.int .i64 (idxFrom p 0 xs))) := by
  generalize hR : idxFrom p 0 xs = R
  have HR := Lib.hid hR
  clear hR
  have Ha := Lib.hid ha
  have Hp := Lib.hid hp
  clear ha hp
  go_enter Try.func61, Try.ntmps61
  go_wp2
  go_loopw [5, 8] (fun _ i wr => ∃ k : Nat, k ≤ xs.length ∧ i = .int .i64 k ∧ idxFrom p k (xs.drop k) = R ∧ Dr w wr) (fun _ i _ => xs.length - (intOf i).toNat)
  case atStart => exact ⟨0, Nat.zero_le _, rfl, HR.out, Dr.refl _⟩
  case round =>
    obtain ⟨k, hk, rfl, hS, hd⟩ := hrel
    have HS := Lib.hid hS
    have Hd := Lib.hid hd
    clear hS hd
    by_cases hlt : k < xs.length
    · obtain ⟨v, hv⟩ := some_of hlt
      obtain ⟨ad, rfl, hca⟩ := Ha.out.keep Hd.out.keep k v hv
      have hcall := Hp.out wr v Hd.out
      cases hpv : p v
      · have HS2 : Hid (idxFrom p (k + 1) (xs.drop (k + 1)) = R) := Lib.hid (by have := HS.out; rw [drop_of hv, idxFrom, hpv] at this; exact this)
        rw [hpv] at hcall
        have Hv := Lib.hid hv
        have Hpv := Lib.hid hpv
        clear hv hpv
        go_wp2_with fail
        refine hcall.mono ?_
        rintro e w1 ⟨rfl, q, rfl⟩
        go_wp2
        go_roundw
        case rel => exact ⟨k + 1, by omega, by go_num, HS2.out, Hd.out.dN _⟩
        case measure => simp [intOf]; omega
      · have HS2 : Hid ((k : Int) = R) := Lib.hid (by have := HS.out; rw [drop_of hv, idxFrom, hpv] at this; exact this)
        rw [hpv] at hcall
        have Hv := Lib.hid hv
        have Hpv := Lib.hid hpv
        clear hv hpv
        go_wp2_with fail
        refine hcall.mono ?_
        rintro e w1 ⟨rfl, q, rfl⟩
        go_wp2
        go_ret
        exact ⟨ret_int HS2.out, Hd.out.dN _⟩
    · obtain rfl : k = xs.length := by omega
      go_wp2
      go_ret
      exact ⟨ret_int (by have := HS.out; rwa [List.drop_length, idxFrom] at this), Hd.out⟩

set_option maxHeartbeats 400000 in
theorem containsFS_c (g : Nat) (lb : Array Value) (p : ByteArray → Bool) (A : Option Addr) (c : Nat) (xs : List ByteArray) (w : World) (eg : ∀ args w, (callFunc g args).run Try.prog w = .ok (.enter g args) w)
    (hp : PredS g lb p w) (ha : Strs w A xs) (hm : xs.length ≤ 1048576) :
    Calls Try.prog 43 #[.slice A xs.length c, .func (.func g) #[] lb] w (Quiet w (.bool (xs.any p))) := by
  have HR := Lib.hid (idxFrom_any p xs 0)
  generalize hv : idxFrom p 0 xs = v at HR
  generalize xs.any p = R at HR
  have hc := calls_v (indexFS_c g lb p A c xs w eg hp ha hm) (congrArg (Value.int .i64) hv)
  have Hc := Lib.hid hc
  clear hc
  clear hp ha hv
  go_enter Try.func43, Try.ntmps43
  go_wp2_with fail
  refine Hc.out.mono ?_
  rintro e w1 ⟨rfl, hq⟩
  go_wp2
  go_ret
  exact ⟨ret_bool HR.out, hq⟩

set_option maxHeartbeats 1000000 in
theorem patsF_c (x s0 : ByteArray) (p : Addr) (A : Option Addr) (n c : Nat) (W : World) (h1 : W.cell? p = some (.slice A n c)) (hn : 0 < n) (hs : ∃ ad, A = some ad ∧ W.cell? ad = some (.string s0)) :
    Calls Try.prog 44 #[.string x, .pointer (some p)] W (Quiet W (.bool (!fits s0.size x))) := by
  generalize hR : fits s0.size x = R
  have HR := Lib.hid hR
  clear hR
  obtain ⟨ad, rfl, hcs⟩ := hs
  have hn' : (0 : Int) < (n : Int) := by omega
  cases h2 : patOk x
  · have HS : Hid (false = R) := Lib.hid (by rw [← HR.out]; simp [fits, h2])
    have H2 := Lib.hid h2
    clear h2
    go_enter Try.func44, Try.ntmps44
    go_wp2_with fail
    refine (calls_v (iPatternOk_c _ _) (congrArg Value.bool H2.out)).mono ?_
    rintro e w1 ⟨rfl, hq⟩
    go_wp2
    go_ret
    exact ⟨by rw [← HS.out]; rfl, hq⟩
  · by_cases h3 : x.size = s0.size
    · have h3' : ((x.size : Int) != (s0.size : Int)) = false := by simp [h3]
      have HS : Hid (true = R) := Lib.hid (by rw [← HR.out]; simp [fits, h2, h3])
      have H2 := Lib.hid h2
      have H3 := Lib.hid h3
      clear h2 h3
      go_enter Try.func44, Try.ntmps44
      go_wp2_with fail
      refine (calls_v (iPatternOk_c _ _) (congrArg Value.bool H2.out)).mono ?_
      rintro e w1 ⟨rfl, hq⟩
      have k1 := hq.keep _ _ h1
      have k2 := hq.keep _ _ hcs
      have Hq := Lib.hid hq
      clear hq
      go_wp2
      go_ret
      exact ⟨by rw [← HS.out]; rfl, Hq.out⟩
    · have h3' : ((x.size : Int) != (s0.size : Int)) = true := by rw [bne_iff_ne]; omega
      have HS : Hid (false = R) := Lib.hid (by rw [← HR.out]; simp [fits, h3])
      have H2 := Lib.hid h2
      have H3 := Lib.hid h3
      clear h2 h3
      go_enter Try.func44, Try.ntmps44
      go_wp2_with fail
      refine (calls_v (iPatternOk_c _ _) (congrArg Value.bool H2.out)).mono ?_
      rintro e w1 ⟨rfl, hq⟩
      have k1 := hq.keep _ _ h1
      have k2 := hq.keep _ _ hcs
      have Hq := Lib.hid hq
      clear hq
      go_wp2
      go_ret
      exact ⟨by rw [← HS.out]; rfl, Hq.out⟩

set_option maxHeartbeats 1000000 in
theorem iPatternsOk_c (A : Option Addr) (c : Nat) (ss : List ByteArray) (w : World) (ha : Strs w A ss) (hm : ss.length ≤ 1048576) :
    Calls Try.prog 20 #[.slice A ss.length c] w (Gives w (.bool (patsOk ss))) := by
  generalize hR : patsOk ss = R
  have HR := Lib.hid hR
  clear hR
  have hmf : ∀ (fn : Fn) (first cap : Array Value) (w : World), (Instr.makeFunc fn first cap).run Try.prog w = .ok (.func fn first cap) w := fun _ _ _ _ => rfl
  have hbx : Below w.heap.size w (w.alloc (.cells #[.slice A ss.length c] 24)) := (Below.refl _ w).alloc (Nat.le_refl _) _
  have hcw : (w.alloc (.cells #[.slice A ss.length c] 24)).cell? ⟨w.heap.size, 0, none⟩ = some (.slice A ss.length c) := by simp
  have ha2 := ha.keep (keep_of_below hbx)
  have Ha2 := Lib.hid ha2
  have Hbx := Lib.hid hbx
  clear ha2 hbx
  clear ha
  cases h1 : isClubsB ss.length
  · have HS : Hid (false = R) := Lib.hid (by rw [← HR.out]; simp [patsOk, h1])
    have H1 := Lib.hid h1
    clear h1
    go_enter Try.func20, Try.ntmps20
    go_wp2_with fail
    generalize w.alloc (.cells #[.slice A ss.length c] 24) = wB at hcw Hbx Ha2 ⊢
    refine (calls_v (isClubs_c _ _) (congrArg Value.bool H1.out)).mono ?_
    rintro e w1 ⟨rfl, hq⟩
    go_wp2
    go_ret
    exact ⟨ret_bool HS.out, below_dr Hbx.out hq⟩
  · have hn := isClubs_true h1
    obtain ⟨s0, hs0⟩ := some_of (l := ss) (k := 0) (by omega)
    have hh : (ss.headD ByteArray.empty) = s0 := by cases ss with
      | nil => simp at hs0
      | cons a l => simpa using hs0
    have HS : Hid ((!ss.any (fun x => !fits s0.size x)) = R) := Lib.hid (by rw [← HR.out, patsOk, h1, hh]; simp [List.not_any_eq_all_not])
    have hn0 : 0 < ss.length := by omega
    have H1 := Lib.hid h1
    have Hh := Lib.hid hh
    clear h1 hh
    go_enter Try.func20, Try.ntmps20
    go_wp2_with fail
    generalize w.alloc (.cells #[.slice A ss.length c] 24) = wB at hcw Hbx Ha2 ⊢
    refine (calls_v (isClubs_c _ _) (congrArg Value.bool H1.out)).mono ?_
    rintro e w1 ⟨rfl, hq⟩
    have Hs1 := Lib.hid (Ha2.out.keep hq.keep)
    have k1 := hq.keep _ _ hcw
    have Hb1 := Lib.hid (below_dr Hbx.out hq)
    clear hq
    have hcon := containsFS_c 44 #[.pointer (some ⟨w.heap.size, 0, none⟩)] (fun x => !fits s0.size x) A c ss w1 (enters_of Try.func44 (by kernel_rfl) rfl)
      (fun W x hd => patsF_c x s0 _ A ss.length c W (hd.keep _ _ k1) hn0 (by
        obtain ⟨ad, e, hc⟩ := Hs1.out.keep hd.keep 0 s0 hs0
        rw [Addr.add_zero'] at hc
        exact ⟨ad, e, hc⟩)) Hs1.out hm
    have Hcon := Lib.hid hcon
    have Hs0 := Lib.hid hs0
    clear hcon hs0
    go_wp2_with fail
    refine Hcon.out.mono ?_
    rintro e w2 ⟨rfl, hq2⟩
    go_wp2
    go_ret
    exact ⟨ret_bool HS.out, below_dr Hb1.out hq2⟩

set_option maxHeartbeats 1000000 in
theorem sPatternsOk_c (A : Option Addr) (c : Nat) (ss : List ByteArray) (w : World) (ha : Strs w A ss) :
    Calls Try.prog 18 #[.slice A ss.length c] w (Quiet w (.bool (patsOk ss))) := by
  generalize hR : patsOk ss = R
  have HR := Lib.hid hR
  clear hR
  have Ha := Lib.hid ha
  clear ha
  cases h1 : isClubsB ss.length
  · have HS : Hid (false = R) := Lib.hid (by rw [← HR.out]; simp [patsOk, h1])
    have H1 := Lib.hid h1
    clear h1
    go_enter Try.func18, Try.ntmps18
    go_wp2_with fail
    refine (calls_v (l16Size_c _ _) (congrArg Value.bool H1.out)).mono ?_
    rintro e w1 ⟨rfl, hq⟩
    go_wp2
    go_ret
    exact ⟨ret_bool HS.out, hq⟩
  · have hn := isClubs_true h1
    obtain ⟨s0, hs0⟩ := some_of (l := ss) (k := 0) (by omega)
    have hh : (ss.headD ByteArray.empty) = s0 := by cases ss with
      | nil => simp at hs0
      | cons a l => simpa using hs0
    have HS : Hid ((ss.drop 0).all (fits s0.size) = R) := Lib.hid (by rw [← HR.out, patsOk, h1, hh]; simp)
    have hn0 : (0 : Int) < (ss.length : Int) := by omega
    have hn10 : ss.length ≤ 10 := by omega
    have H1 := Lib.hid h1
    have Hh := Lib.hid hh
    clear h1 hh
    go_enter Try.func18, Try.ntmps18
    go_wp2_with fail
    refine (calls_v (l16Size_c _ _) (congrArg Value.bool H1.out)).mono ?_
    rintro e w1 ⟨rfl, hq⟩
    have Hq := Lib.hid hq
    clear hq
    go_wp2
    go_loopw [11] (fun i wr => ∃ k : Nat, k ≤ ss.length ∧ i = .int .i64 k ∧ (ss.drop k).all (fits s0.size) = R ∧ Dr w wr) (fun i _ => ss.length - (intOf i).toNat)
    case atStart => exact ⟨0, Nat.zero_le _, rfl, HS.out, Hq.out⟩
    case round =>
      obtain ⟨k, hk, rfl, hS, hd⟩ := hrel
      have HS := Lib.hid hS
      have Hd := Lib.hid hd
      clear hS hd
      by_cases hlt : k < ss.length
      · obtain ⟨x, hx⟩ := some_of hlt
        obtain ⟨ad, rfl, hca⟩ := Ha.out.keep Hd.out.keep k x hx
        obtain ⟨ad', e', hc0⟩ := Ha.out.keep Hd.out.keep 0 s0 hs0
        obtain rfl : ad = ad' := by injection e'
        rw [Addr.add_zero'] at hc0
        have HS1 : Hid ((fits s0.size x && (ss.drop (k + 1)).all (fits s0.size)) = R) := Lib.hid (by have := HS.out; rwa [drop_of hx, List.all_cons] at this)
        clear e'
        have Hx := Lib.hid hx
        clear hx
        cases h2 : patOk x
        · have HS2 : Hid (false = R) := Lib.hid (by have := HS1.out; simpa [fits, h2] using this)
          have Hs0 := Lib.hid hs0
          clear hs0
          have H2 := Lib.hid h2
          clear h2
          go_wp2_with fail
          refine (calls_v (sPatternOk_c _ _) (congrArg Value.bool H2.out)).mono ?_
          rintro e w2 ⟨rfl, hq⟩
          go_wp2
          go_ret
          exact ⟨ret_bool HS2.out, Hd.out.trans hq⟩
        · by_cases h3 : x.size = s0.size
          · have h3' : ((x.size : Int) != (s0.size : Int)) = false := by simp [h3]
            have HS2 : Hid ((ss.drop (k + 1)).all (fits s0.size) = R) := Lib.hid (by have := HS1.out; rwa [show fits s0.size x = true from by simp [fits, h2, h3], Bool.true_and] at this)
            have Hs0 := Lib.hid hs0
            clear hs0
            have H2 := Lib.hid h2
            have H3 := Lib.hid h3
            clear h2 h3
            go_wp2_with fail
            refine (calls_v (sPatternOk_c _ _) (congrArg Value.bool H2.out)).mono ?_
            rintro e w2 ⟨rfl, hq⟩
            have k2 := hq.keep _ _ hc0
            have Hq2 := Lib.hid hq
            clear hq
            go_wp2
            go_roundw
            case rel => exact ⟨k + 1, by omega, by go_num, HS2.out, Hd.out.trans Hq2.out⟩
            case measure => simp [intOf]; omega
          · have h3' : ((x.size : Int) != (s0.size : Int)) = true := by rw [bne_iff_ne]; omega
            have HS2 : Hid (false = R) := Lib.hid (by have := HS1.out; simpa [fits, h3] using this)
            have Hs0 := Lib.hid hs0
            clear hs0
            have H2 := Lib.hid h2
            have H3 := Lib.hid h3
            clear h2 h3
            go_wp2_with fail
            refine (calls_v (sPatternOk_c _ _) (congrArg Value.bool H2.out)).mono ?_
            rintro e w2 ⟨rfl, hq⟩
            have k2 := hq.keep _ _ hc0
            have Hq2 := Lib.hid hq
            clear hq
            go_wp2
            go_ret
            exact ⟨ret_bool HS2.out, Hd.out.trans Hq2.out⟩
      · obtain rfl : k = ss.length := by omega
        have HS2 : Hid (true = R) := Lib.hid (by have := HS.out; rwa [List.drop_length, List.all_nil] at this)
        go_wp2
        go_ret
        exact ⟨ret_bool HS2.out, Hd.out⟩
end Go.Proofs.Yteefbnadjjcpkaa
