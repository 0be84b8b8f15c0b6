/- Contracts: slices.ContainsFunc over results, whether a league is valid (program and reference). -/
import Derived.Test.YtehlijpjcjegcaaLgF
import Derived.Shelf.Abstract
namespace Go.Proofs.Ytehlijpjcjegcaa
set_option linter.unusedSimpArgs false
set_option linter.unusedVariables false
open Go.RowKit

def idxR (p : Res → Bool) : Nat → List Res → Int
  | _, [] => -1
  | k, r :: t => if p r then (k : Int) else idxR p (k + 1) t
theorem idxR_any (p : Res → Bool) : ∀ (rs : List Res) (k : Nat), decide (0 ≤ idxR p k rs) = rs.any p
  | [], _ => rfl
  | r :: t, k => by
    rw [idxR, List.any_cons]
    cases h : p r
    · simpa using idxR_any p t (k + 1)
    · simp
/-- A predicate on some results: in whatever later world it answers and leaves what was there. -/
def PredG (g : Nat) (lb : Array Value) (p : Res → Bool) (rs : List Res) (w : World) : Prop :=
  ∀ (W : World) (r : Res), r ∈ rs → Below w.heap.size w W → Calls Try.prog g (#[.agg #[.int .i64 r.h, .int .i64 r.a, .int .i64 r.g, .int .i64 r.t]] ++ lb) W (Gives W (.bool (p r)))

set_option maxHeartbeats 1000000 in
theorem indexG_c (g : Nat) (lb : Array Value) (p : Res → Bool) (A : Option Addr) (n c : Nat) (rs : List Res) (w : World) (eg : ∀ args w, (callFunc g args).run Try.prog w = .ok (.enter g args) w)
    (hp : PredG g lb p rs w) (ha : Games w A rs) (hn : rs.length = n) (hm : n ≤ 1048576) :
    Calls Try.prog 98 #[.slice A n c, .func (.func g) #[] lb] w (Gives w (.int .i64 (idxR p 0 rs))) := by
  generalize hR : idxR p 0 rs = R
  have HR := Lib.hid hR
  clear hR
  have Ha := Lib.hid ha
  have Hp := Lib.hid hp
  have Hn := Lib.hid hn
  clear ha hp hn
  go_enter Try.func98, Try.ntmps98
  go_wp2
  go_loopw [5, 8] (fun _ i wr => ∃ k : Nat, k ≤ n ∧ i = .int .i64 k ∧ idxR p k (rs.drop k) = R ∧ Below w.heap.size w wr) (fun _ i _ => n - (intOf i).toNat)
  case atStart => exact ⟨0, Nat.zero_le _, rfl, HR.out, Below.refl _ _⟩
  case round =>
    obtain ⟨k, hk, rfl, hS, hd⟩ := hrel
    have HS := Lib.hid hS
    have Hd := Lib.hid hd
    clear hS hd
    by_cases hlt : k < n
    · have hki : (k : Int) < (n : Int) := by omega
      obtain ⟨v, hv⟩ := some_of (l := rs) (k := k) (by rw [Hn.out]; exact hlt)
      obtain ⟨ad, rfl, c0, c1, c2, c3⟩ := (Ha.out.keep (keep_of_below Hd.out)) k v hv
      have hcall := fun W hW => Hp.out W v (List.mem_of_getElem? hv) hW
      cases hpv : p v
      · have HS2 : Hid (idxR p (k + 1) (rs.drop (k + 1)) = R) := Lib.hid (by have := HS.out; rw [drop_of hv, idxR, hpv] at this; exact this)
        rw [hpv] at hcall
        have Hv := Lib.hid hv
        have Hpv := Lib.hid hpv
        have Hcall := Lib.hid hcall
        clear hv hpv hcall
        go_wp2_with fail
        refine (Hcall.out _ ?_).mono ?_
        · exact Hd.out
        rintro e w1 ⟨rfl, hb⟩
        have hd2 := Hd.out.trans (hb.mono Hd.out.size)
        have Hd2 := Lib.hid hd2
        clear hd2
        clear hb
        go_wp2
        go_roundw
        case rel => exact ⟨k + 1, by omega, by go_num, HS2.out, Hd2.out⟩
        case measure => simp [intOf]; omega
      · have HS2 : Hid ((k : Int) = R) := Lib.hid (by have := HS.out; rw [drop_of hv, idxR, hpv] at this; exact this)
        rw [hpv] at hcall
        have Hv := Lib.hid hv
        have Hpv := Lib.hid hpv
        have Hcall := Lib.hid hcall
        clear hv hpv hcall
        go_wp2_with fail
        refine (Hcall.out _ ?_).mono ?_
        · exact Hd.out
        rintro e w1 ⟨rfl, hb⟩
        have hd2 := Hd.out.trans (hb.mono Hd.out.size)
        have Hd2 := Lib.hid hd2
        clear hd2
        clear hb
        go_wp2
        go_ret
        exact ⟨ret_int HS2.out, Hd2.out⟩
    · obtain rfl : k = n := by omega
      go_wp2
      go_ret
      exact ⟨ret_int (by have := HS.out; rwa [drop_end (l := rs) (by rw [Hn.out]; exact Nat.le_refl _), idxR] at this), Hd.out⟩
set_option maxHeartbeats 400000 in
theorem containsG_c (g : Nat) (lb : Array Value) (p : Res → Bool) (A : Option Addr) (n c : Nat) (rs : List Res) (w : World) (eg : ∀ args w, (callFunc g args).run Try.prog w = .ok (.enter g args) w)
    (hp : PredG g lb p rs w) (ha : Games w A rs) (hn : rs.length = n) (hm : n ≤ 1048576) :
    Calls Try.prog 80 #[.slice A n c, .func (.func g) #[] lb] w (Gives w (.bool (rs.any p))) := by
  have HR2 := Lib.hid (idxR_any p rs 0)
  generalize hv : idxR p 0 rs = v at HR2
  generalize rs.any p = R at HR2
  have hc := gives_v (indexG_c g lb p A _ c rs w eg hp ha hn hm) (congrArg (Value.int .i64) hv)
  have Hc := Lib.hid hc
  clear hc
  clear hp ha hv
  go_enter Try.func80, Try.ntmps80
  go_wp2_with fail
  refine Hc.out.mono ?_
  rintro e w1 ⟨rfl, hq⟩
  go_wp2
  go_ret
  exact ⟨ret_bool HR2.out, hq⟩

theorem not_any (p : Res → Bool) (rs : List Res) : (!rs.any fun r => !p r) = rs.all p := by
  induction rs with
  | nil => rfl
  | cons r t ih => simp [ih]
set_option maxHeartbeats 1000000 in
theorem iLeagueOk_c (n : Int) (A : Option Addr) (c : Nat) (rs : List Res) (w : World) (ha : Games w A rs) (hm : rs.length ≤ 1048576) :
    Calls Try.prog 44 #[lgv n A rs.length c] w (Gives w (.bool (leagueOk n rs))) := by
  generalize hR : leagueOk n rs = R
  have HR := Lib.hid hR
  clear hR
  unfold lgv
  obtain ⟨m, hn⟩ : ∃ m, rs.length = m := ⟨_, rfl⟩
  rw [hn] at hm ⊢
  have Ha := Lib.hid ha
  have Hn := Lib.hid hn
  clear ha hn
  cases e1 : inR n 2 8
  · have hR2 : false = R := by rw [← HR.out]; simp [leagueOk, e1]
    have HR2 := Lib.hid hR2
    have E1 := Lib.hid e1
    clear hR2 e1
    clear HR
    go_enter Try.func44, Try.ntmps44
    go_wp2_with fail
    refine (calls_v (within_c n 2 8 _) (congrArg Value.bool E1.out)).mono ?_
    rintro e w1 ⟨rfl, hq⟩
    go_wp2
    go_ret
    exact ⟨ret_bool HR2.out, ((Below.refl _ _).alloc (Nat.le_refl _) _).trans (hq.below _)⟩
  · have r1 := inR_true e1
    by_cases hl : m ≤ 60
    · have hR2 : (!rs.any fun r => !resOk n r) = R := by rw [not_any, ← HR.out]; simp [leagueOk, e1, Hn.out, hl]
      have hli : ¬ (60 : Int) < (m : Int) := by omega
      have hcl : ∀ W : World, W.cell? ⟨w.heap.size, 0, none⟩ = some (.int .i64 n) → W.cell? ⟨w.heap.size, 1, none⟩ = some (.slice A m c) → Games W A rs →
          Calls Try.prog 80 #[.slice A m c, .func (.func 81) #[] #[.pointer (some ⟨w.heap.size, 0, none⟩)]] W (Gives W (.bool (rs.any fun r => !resOk n r))) := fun W c0 c1 hg =>
        containsG_c _ _ (fun r => !resOk n r) A m c rs W (enters_of Try.func81 (by kernel_rfl) rfl) (fun W' r _ hb => lgOk1_c r n _ A m c W' (by omega) (by omega) (keep_of_below hb _ _ c0) (keep_of_below hb _ _ c1)) hg Hn.out hm
      generalize (rs.any fun r => !resOk n r) = V at hR2 hcl
      cases V
      all_goals
        have HR2 := Lib.hid hR2
        have E1 := Lib.hid e1
        have Hcl := Lib.hid hcl
        clear hR2 e1 hcl
        clear HR
        obtain ⟨b0, b1⟩ := box2 w (.int .i64 n) (.slice A m c) 29
        have hb1 : Below w.heap.size w (w.alloc (.cells #[.int .i64 n, .slice A m c] 29)) := (Below.refl _ _).alloc (Nat.le_refl _) _
        have Hb1 := Lib.hid hb1
        have B0 := Lib.hid b0
        have B1 := Lib.hid b1
        clear hb1 b0 b1
        go_enter Try.func44, Try.ntmps44
        go_wp2_with fail
        refine (calls_v (within_c n 2 8 _) (congrArg Value.bool E1.out)).mono ?_
        rintro e w1 ⟨rfl, hq⟩
        have c0 := hq.keep _ _ B0.out
        have c1 := hq.keep _ _ B1.out
        have Hq := Lib.hid hq
        clear hq
        go_wp2_with fail
        refine (Hcl.out w1 c0 c1 (Ha.out.keep (keep_of_below (Hb1.out.trans (Hq.out.below _))))).mono ?_
        rintro e w2 ⟨rfl, hb2⟩
        go_wp2
        go_ret
        exact ⟨ret_bool HR2.out, (Hb1.out.trans (Hq.out.below _)).trans (hb2.mono (Nat.le_trans Hb1.out.size (Hq.out.below 0).size))⟩
    · have hR2 : false = R := by rw [← HR.out]; simp [leagueOk, e1, Hn.out, hl]
      have hli : (60 : Int) < (m : Int) := by omega
      obtain ⟨b0, b1⟩ := box2 w (.int .i64 n) (.slice A m c) 29
      have HR2 := Lib.hid hR2
      have E1 := Lib.hid e1
      have B0 := Lib.hid b0
      have B1 := Lib.hid b1
      clear hR2 e1 b0 b1
      clear HR
      go_enter Try.func44, Try.ntmps44
      go_wp2_with fail
      refine (calls_v (within_c n 2 8 _) (congrArg Value.bool E1.out)).mono ?_
      rintro e w1 ⟨rfl, hq⟩
      have c0 := hq.keep _ _ B0.out
      have c1 := hq.keep _ _ B1.out
      go_wp2
      go_ret
      exact ⟨ret_bool HR2.out, ((Below.refl _ _).alloc (Nat.le_refl _) _).trans (hq.below _)⟩
end Go.Proofs.Ytehlijpjcjegcaa
