/- Contracts: slices.IndexFunc and slices.ContainsFunc over a slice of numbers, with a predicate that only reads; whether all numbers of a list lie in a range. -/
import Derived.Test.YtehlijpjcjegcaaIn
import Derived.Shelf.Abstract
namespace Go.Proofs.Ytehlijpjcjegcaa
open Go.RowKit

def idxFrom {α : Type} (p : α → Bool) : Nat → List α → Int
  | _, [] => -1
  | k, x :: r => if p x then (k : Int) else idxFrom p (k + 1) r
theorem idxFrom_any {α : Type} (p : α → Bool) : ∀ (xs : List α) (k : Nat), decide (idxFrom p k xs ≥ 0) = xs.any p
  | [], _ => by simp [idxFrom]
  | x :: r, k => by
    unfold idxFrom
    cases h : p x
    · simpa [h] using idxFrom_any p r (k + 1)
    · simp [h]

/-- A predicate on numbers: in whatever world that lies draws behind w it answers, and draws alone. -/
def PredI (g : Nat) (lb : Array Value) (p : Int → Bool) (w : World) : Prop := ∀ (W : World) (x : Int), Dr w W → Calls Try.prog g (#[.int .i64 x] ++ lb) W (Quiet W (.bool (p x)))

set_option maxHeartbeats 400000 in
theorem indexI_c (g : Nat) (lb : Array Value) (p : Int → Bool) (A : Option Addr) (c : Nat) (xs : List Int) (w : World) (eg : ∀ args w, (callFunc g args).run Try.prog w = .ok (.enter g args) w)
    (hp : PredI g lb p w) (ha : Ints w A xs) (hm : xs.length ≤ 1048576) :
    Calls Try.prog 87 #[.slice A xs.length c, .func (.func g) #[] lb] w (Quiet w (.int .i64 (idxFrom p 0 xs))) := by
  generalize hR : idxFrom p 0 xs = R
  have HR := Lib.hid hR
  clear hR
  have Ha := Lib.hid ha
  have Hp := Lib.hid hp
  clear ha hp
  go_enter Try.func87, Try.ntmps87
  go_wp2
  go_loopw [5, 8] (fun _ i wr => ∃ k : Nat, k ≤ xs.length ∧ i = .int .i64 k ∧ idxFrom p k (xs.drop k) = R ∧ Dr w wr) (fun _ i _ => xs.length - (intOf i).toNat)
  case atStart => exact ⟨0, Nat.zero_le _, rfl, HR.out, Dr.refl _⟩
  case round =>
    obtain ⟨k, hk, rfl, hS, hd⟩ := hrel
    have HS := Lib.hid hS
    have Hd := Lib.hid hd
    clear hS hd
    by_cases hlt : k < xs.length
    · obtain ⟨v, hv⟩ := some_of hlt
      obtain ⟨ad, rfl, hca⟩ := Ha.out.keep Hd.out.keep k v hv
      have hcall := Hp.out wr v Hd.out
      cases hpv : p v
      · have HS2 : Hid (idxFrom p (k + 1) (xs.drop (k + 1)) = R) := Lib.hid (by have := HS.out; rw [drop_of hv, idxFrom, hpv] at this; exact this)
        rw [hpv] at hcall
        have Hv := Lib.hid hv
        have Hpv := Lib.hid hpv
        clear hv hpv
        go_wp2_with fail
        refine hcall.mono ?_
        rintro e w1 ⟨rfl, q, rfl⟩
        go_wp2
        go_roundw
        case rel => exact ⟨k + 1, by omega, by go_num, HS2.out, Hd.out.dN _⟩
        case measure => simp [intOf]; omega
      · have HS2 : Hid ((k : Int) = R) := Lib.hid (by have := HS.out; rw [drop_of hv, idxFrom, hpv] at this; exact this)
        rw [hpv] at hcall
        have Hv := Lib.hid hv
        have Hpv := Lib.hid hpv
        clear hv hpv
        go_wp2_with fail
        refine hcall.mono ?_
        rintro e w1 ⟨rfl, q, rfl⟩
        go_wp2
        go_ret
        exact ⟨ret_int HS2.out, Hd.out.dN _⟩
    · obtain rfl : k = xs.length := by omega
      go_wp2
      go_ret
      exact ⟨ret_int (by have := HS.out; rwa [List.drop_length, idxFrom] at this), Hd.out⟩

set_option maxHeartbeats 400000 in
theorem containsI_c (g : Nat) (lb : Array Value) (p : Int → Bool) (A : Option Addr) (c : Nat) (xs : List Int) (w : World) (eg : ∀ args w, (callFunc g args).run Try.prog w = .ok (.enter g args) w)
    (hp : PredI g lb p w) (ha : Ints w A xs) (hm : xs.length ≤ 1048576) :
    Calls Try.prog 95 #[.slice A xs.length c, .func (.func g) #[] lb] w (Quiet w (.bool (xs.any p))) := by
  have HR := Lib.hid (idxFrom_any p xs 0)
  generalize hv : idxFrom p 0 xs = v at HR
  generalize xs.any p = R at HR
  have hc := calls_v (indexI_c g lb p A c xs w eg hp ha hm) (congrArg (Value.int .i64) hv)
  have Hc := Lib.hid hc
  clear hc
  clear hp ha hv
  go_enter Try.func95, Try.ntmps95
  go_wp2_with fail
  refine Hc.out.mono ?_
  rintro e w1 ⟨rfl, hq⟩
  go_wp2
  go_ret
  exact ⟨ret_bool HR.out, hq⟩

set_option maxHeartbeats 400000 in
theorem allWithinF_c (x lo hi : Int) (p q : Addr) (W : World) (h1 : W.cell? p = some (.int .i64 lo)) (h2 : W.cell? q = some (.int .i64 hi)) :
    Calls Try.prog 96 #[.int .i64 x, .pointer (some p), .pointer (some q)] W (Quiet W (.bool (!inR x lo hi))) := by
  generalize hR : inR x lo hi = R
  have HR := Lib.hid hR
  clear hR
  go_enter Try.func96, Try.ntmps96
  go_wp2_with fail
  refine (calls_v (within_c _ _ _ _) (congrArg Value.bool HR.out)).mono ?_
  rintro e w1 ⟨rfl, hq⟩
  go_wp2
  go_ret
  exact ⟨rfl, hq⟩

set_option maxHeartbeats 400000 in
theorem allWithin_c (A : Option Addr) (c : Nat) (xs : List Int) (lo hi : Int) (w : World) (ha : Ints w A xs) (hm : xs.length ≤ 1048576) :
    Calls Try.prog 74 #[.slice A xs.length c, .int .i64 lo, .int .i64 hi] w (Gives w (.bool (xs.all fun x => inR x lo hi))) := by
  have HR : Hid ((!xs.any fun x => !inR x lo hi) = xs.all fun x => inR x lo hi) := Lib.hid (by simp [List.not_any_eq_all_not])
  generalize (xs.all fun x => inR x lo hi) = R at HR
  have hmf : ∀ (fn : Fn) (first cap : Array Value) (w : World), (Instr.makeFunc fn first cap).run Try.prog w = .ok (.func fn first cap) w := fun _ _ _ _ => rfl
  have hbx : Below w.heap.size w ((w.alloc (.cells #[.int .i64 lo] 3)).alloc (.cells #[.int .i64 hi] 3)) := ((Below.refl _ w).alloc (Nat.le_refl _) _).alloc (by simp) _
  have hc := containsI_c 96 #[.pointer (some ⟨w.heap.size, 0, none⟩), .pointer (some ⟨w.heap.size + 1, 0, none⟩)] (fun x => !inR x lo hi) A c xs _ (enters_of Try.func96 (by kernel_rfl) rfl)
    (fun W x hd => by obtain ⟨m, rfl⟩ := hd; exact allWithinF_c x lo hi _ _ _ (by simp) (by simp)) (ha.keep (keep_of_below hbx)) hm
  have Hc := Lib.hid hc
  have Hbx := Lib.hid hbx
  clear hc hbx
  clear ha
  go_enter Try.func74, Try.ntmps74
  go_wp2_with fail
  refine Hc.out.mono ?_
  rintro e w1 ⟨rfl, hq⟩
  go_wp2
  go_ret
  exact ⟨ret_bool HR.out, Hbx.out.trans (hq.below _)⟩
end Go.Proofs.Ytehlijpjcjegcaa
