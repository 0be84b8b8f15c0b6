/- Contracts: slices.IndexFunc and slices.ContainsFunc over a slice of slices of numbers, with a predicate that only reads. -/
import Derived.Test.YtdgmmgaihgpccaaScan
namespace Go.Proofs.Ytdgmmgaihgpccaa
open Go.RowKit

/-- A predicate on some rows: in whatever world that lies draws behind w it answers, and draws alone. -/
def PredR (g : Nat) (lb : Array Value) (p : List Int → Bool) (xss : List (List Int)) (w : World) : Prop :=
  ∀ (W : World) (a : Option Addr) (c : Nat) (r : List Int), r ∈ xss → Dr w W → Ints W a r → Calls Try.prog g (#[.slice a r.length c] ++ lb) W (Quiet W (.bool (p r)))

set_option maxHeartbeats 400000 in
theorem indexR_c (g : Nat) (lb : Array Value) (p : List Int → Bool) (A : Option Addr) (n c : Nat) (xss : List (List Int)) (w : World) (eg : ∀ args w, (callFunc g args).run Try.prog w = .ok (.enter g args) w)
    (hp : PredR g lb p xss w) (ha : Rows w A xss) (hn : n = xss.length) (hm : n ≤ 1048576) :
    Calls Try.prog 60 #[.slice A n c, .func (.func g) #[] lb] w (Quiet w (.int .i64 (idxFrom p 0 xss))) := by
  subst hn
  generalize hR : idxFrom p 0 xss = R
  have HR := Lib.hid hR
  clear hR
  have Ha := Lib.hid ha
  have Hp := Lib.hid hp
  clear ha hp
  go_enter Try.func60, Try.ntmps60
  go_wp2
  go_loopw [5, 8] (fun _ i wr => ∃ k : Nat, k ≤ xss.length ∧ i = .int .i64 k ∧ idxFrom p k (xss.drop k) = R ∧ Dr w wr) (fun _ i _ => xss.length - (intOf i).toNat)
  case atStart => exact ⟨0, Nat.zero_le _, rfl, HR.out, Dr.refl _⟩
  case round =>
    obtain ⟨k, hk, rfl, hS, hd⟩ := hrel
    have HS := Lib.hid hS
    have Hd := Lib.hid hd
    clear hS hd
    by_cases hlt : k < xss.length
    · obtain ⟨v, hv⟩ := some_of hlt
      obtain ⟨ad, a, c', rfl, _, _, hca, hia⟩ := Ha.out.keep Hd.out.keep k v hv
      have hcall := Hp.out wr a c' v (List.mem_of_getElem? hv) Hd.out hia
      clear hia
      cases hpv : p v
      · have HS2 : Hid (idxFrom p (k + 1) (xss.drop (k + 1)) = R) := Lib.hid (by have := HS.out; rw [drop_of hv, idxFrom, hpv] at this; exact this)
        rw [hpv] at hcall
        have Hv := Lib.hid hv
        have Hpv := Lib.hid hpv
        clear hv hpv
        go_wp2_with fail
        refine hcall.mono ?_
        rintro e w1 ⟨rfl, q, rfl⟩
        go_wp2
        go_roundw
        case rel => exact ⟨k + 1, by omega, by go_num, HS2.out, Hd.out.dN _⟩
        case measure => simp [intOf]; omega
      · have HS2 : Hid ((k : Int) = R) := Lib.hid (by have := HS.out; rw [drop_of hv, idxFrom, hpv] at this; exact this)
        rw [hpv] at hcall
        have Hv := Lib.hid hv
        have Hpv := Lib.hid hpv
        clear hv hpv
        go_wp2_with fail
        refine hcall.mono ?_
        rintro e w1 ⟨rfl, q, rfl⟩
        go_wp2
        go_ret
        exact ⟨ret_int HS2.out, Hd.out.dN _⟩
    · obtain rfl : k = xss.length := by omega
      go_wp2
      go_ret
      exact ⟨ret_int (by have := HS.out; rwa [List.drop_length, idxFrom] at this), Hd.out⟩

set_option maxHeartbeats 400000 in
theorem containsR_c (g : Nat) (lb : Array Value) (p : List Int → Bool) (A : Option Addr) (n c : Nat) (xss : List (List Int)) (w : World) (eg : ∀ args w, (callFunc g args).run Try.prog w = .ok (.enter g args) w)
    (hp : PredR g lb p xss w) (ha : Rows w A xss) (hn : n = xss.length) (hm : n ≤ 1048576) :
    Calls Try.prog 46 #[.slice A n c, .func (.func g) #[] lb] w (Quiet w (.bool (xss.any p))) := by
  subst hn
  have HR := Lib.hid (idxFrom_any p xss 0)
  generalize hv : idxFrom p 0 xss = v at HR
  generalize xss.any p = R at HR
  have hc := calls_v (indexR_c g lb p A _ c xss w eg hp ha rfl hm) (congrArg (Value.int .i64) hv)
  have Hc := Lib.hid hc
  clear hc
  clear hp ha hv
  go_enter Try.func46, Try.ntmps46
  go_wp2_with fail
  refine Hc.out.mono ?_
  rintro e w1 ⟨rfl, hq⟩
  go_wp2
  go_ret
  exact ⟨ret_bool HR.out, hq⟩
end Go.Proofs.Ytdgmmgaihgpccaa
