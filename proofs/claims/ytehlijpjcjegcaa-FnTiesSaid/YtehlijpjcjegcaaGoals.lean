/- Contracts: the goals of a club (program and reference). -/
import Derived.Test.YtehlijpjcjegcaaLgL
namespace Go.Proofs.Ytehlijpjcjegcaa
set_option linter.unusedSimpArgs false
set_option linter.unusedVariables false
open Go.RowKit

def goalsAcc (k : Int) : Int → Int → List Res → Int × Int
  | m, a, [] => (m, a)
  | m, a, r :: t => if r.h = k then goalsAcc k (m + r.g) (a + r.t) t else if r.a = k then goalsAcc k (m + r.t) (a + r.g) t else goalsAcc k m a t
def madeF (rs : List Res) (k : Int) : Int := (goalsAcc k 0 0 rs).1
def agstF (rs : List Res) (k : Int) : Int := (goalsAcc k 0 0 rs).2
theorem goalsAcc_bd {n : Int} (k : Int) : ∀ (rs : List Res) (m a b : Int), (∀ r ∈ rs, resOk n r = true) → 0 ≤ m → m ≤ b → 0 ≤ a → a ≤ b → 0 ≤ (goalsAcc k m a rs).1 ∧ (goalsAcc k m a rs).1 ≤ b + 99 * (rs.length : Int) ∧ 0 ≤ (goalsAcc k m a rs).2 ∧ (goalsAcc k m a rs).2 ≤ b + 99 * (rs.length : Int)
  | [], m, a, b, _, h1, h2, h3, h4 => by simp only [goalsAcc, List.length_nil]; omega
  | r :: t, m, a, b, hr, h1, h2, h3, h4 => by
    have ho := resOk_of (hr r (by simp))
    have g0 := ho.g0
    have g9 := ho.g9
    have t0 := ho.t0
    have t9 := ho.t9
    have ht : ∀ r ∈ t, resOk n r = true := fun x hx => hr x (by simp [hx])
    rw [goalsAcc, List.length_cons]
    split
    · have := goalsAcc_bd k t (m + r.g) (a + r.t) (b + 99) ht (by omega) (by omega) (by omega) (by omega); omega
    · split
      · have := goalsAcc_bd k t (m + r.t) (a + r.g) (b + 99) ht (by omega) (by omega) (by omega) (by omega); omega
      · have := goalsAcc_bd k t m a (b + 99) ht (by omega) (by omega) (by omega) (by omega); omega
theorem goals_bd {n : Int} {rs : List Res} (hL : League n rs) (k : Int) : 0 ≤ madeF rs k ∧ madeF rs k ≤ 5940 ∧ 0 ≤ agstF rs k ∧ agstF rs k ≤ 5940 := by
  have := goalsAcc_bd (n := n) k rs 0 0 0 hL.ok (by omega) (by omega) (by omega) (by omega)
  have h60 := hL.few
  unfold madeF agstF; omega

set_option maxHeartbeats 4000000 in
theorem goals_c (n : Nat) (A : Option Addr) (c : Nat) (rs : List Res) (k : Int) (w : World) (ha : Games w A rs) (hok : leagueOk n rs = true) :
    Calls Try.prog 91 #[lgv n A rs.length c, .int .i64 k] w (Gives w (.tuple #[.int .i64 (madeF rs k), .int .i64 (agstF rs k)])) := by
  obtain ⟨R, hR⟩ : ∃ R, goalsAcc k 0 0 rs = R := ⟨_, rfl⟩
  have hm0 : madeF rs k = R.1 := by rw [madeF, hR]
  have ha0 : agstF rs k = R.2 := by rw [agstF, hR]
  rw [hm0, ha0]
  have hL := league_of hok
  have hm60 := hL.few
  have hrs := hL.ok
  unfold lgv
  obtain ⟨m, hm⟩ : ∃ m, rs.length = m := ⟨_, rfl⟩
  rw [hm] at hm60 ⊢
  obtain ⟨b0, b1⟩ := box2 w (.int .i64 (n : Int)) (.slice A m c) 29
  have hb1 : Below w.heap.size w (w.alloc (.cells #[.int .i64 (n : Int), .slice A m c] 29)) := (Below.refl _ _).alloc (Nat.le_refl _) _
  have Ha := Lib.hid ha
  have Hm := Lib.hid hm
  have Hrs := Lib.hid hrs
  have Hb1 := Lib.hid hb1
  have HR := Lib.hid hR
  clear ha hm hrs hb1 hR
  clear hL hok hm0 ha0
  go_enter Try.func91, Try.ntmps91
  go_wp2
  go_loopw [6, 7, 15] (fun p q i wr => ∃ (j : Nat) (x y : Int), j ≤ m ∧ i = .int .i64 j ∧ p = .int .i64 x ∧ q = .int .i64 y ∧ 0 ≤ x ∧ x ≤ 99 * (j : Int) ∧ 0 ≤ y ∧ y ≤ 99 * (j : Int) ∧ goalsAcc k x y (rs.drop j) = R ∧ Below w.heap.size w wr) (fun _ _ i _ => m - (intOf i).toNat)
  case atStart => exact ⟨0, 0, 0, Nat.zero_le _, rfl, rfl, rfl, by omega, by omega, by omega, by omega, HR.out, Hb1.out⟩
  case round =>
    obtain ⟨j, x, y, hj, rfl, rfl, rfl, x0, x1, y0, y1, hS, hd⟩ := hrel
    have Hd := Lib.hid hd
    have HS := Lib.hid hS
    clear hd hS
    by_cases hlt : j < m
    · have hji : (j : Int) < (m : Int) := by omega
      obtain ⟨r, hr⟩ := some_of (l := rs) (k := j) (by rw [Hm.out]; exact hlt)
      have hro := resOk_of (Hrs.out r (List.mem_of_getElem? hr))
      obtain ⟨ad, rfl, a0, a1, a2, a3⟩ := (Ha.out.keep (keep_of_below Hd.out)) j _ hr
      have HS1 : Hid ((if r.h = k then goalsAcc k (x + r.g) (y + r.t) (rs.drop (j + 1)) else if r.a = k then goalsAcc k (x + r.t) (y + r.g) (rs.drop (j + 1)) else goalsAcc k x y (rs.drop (j + 1))) = R) := Lib.hid (by have := HS.out; rwa [drop_of hr, goalsAcc] at this)
      have g0 := hro.g0
      have g9 := hro.g9
      have t0 := hro.t0
      have t9 := hro.t9
      have hne := hro.ne
      obtain ⟨rh, ra, rg, rt⟩ := r
      simp only at a0 a1 a2 a3 g0 g9 t0 t9 hne HS1
      have e1 : IntKind.i64.wrap (x + rg) = x + rg := IntWalk.i64_in _ (by omega)
      have e2 : IntKind.i64.wrap (y + rt) = y + rt := IntWalk.i64_in _ (by omega)
      have e3 : IntKind.i64.wrap (x + rt) = x + rt := IntWalk.i64_in _ (by omega)
      have e4 : IntKind.i64.wrap (y + rg) = y + rg := IntWalk.i64_in _ (by omega)
      obtain ⟨b0, b1, b2, b3⟩ := box4 wr (.int .i64 rh) (.int .i64 ra) (.int .i64 rg) (.int .i64 rt) 47
      have hbr : Below wr.heap.size wr (wr.alloc (.cells #[.int .i64 rh, .int .i64 ra, .int .i64 rg, .int .i64 rt] 47)) := (Below.refl _ _).alloc (Nat.le_refl _) _
      have hd2 := Hd.out.trans (hbr.mono Hd.out.size)
      have hgf := fun W => goalsFor_c rh ra rg rt k W
      have Hr := Lib.hid hr
      have Hbr := Lib.hid hbr
      have Hd2 := Lib.hid hd2
      have Hgf := Lib.hid hgf
      have Hne := Lib.hid hne
      clear hr hbr hd2 hgf hne
      clear HS hro
      by_cases h1 : rh = k
      · have q1 : (rh == k) = true := by simp [h1]
        have q2 : (ra == k) = false := by rw [beq_eq_false_iff_ne]; intro e; exact Hne.out (by rw [h1, e])
        have HS2 : Hid (goalsAcc k (x + rg) (y + rt) (rs.drop (j + 1)) = R) := Lib.hid (by have := HS1.out; rwa [if_pos h1] at this)
        have ho1 : ownG rh rg rt k = rg := by rw [ownG, if_pos h1.symm]
        have ho2 : othG rh rg rt k = rt := by rw [othG, if_pos h1.symm]
        have Hgf := Lib.hid (fun W => by have := Hgf.out W; rw [ho1, ho2] at this; exact this)
        clear ho1 ho2
        have H1 := Lib.hid h1
        clear h1
        go_wp2_with fail
        refine (Hgf.out _).mono ?_
        rintro e w5 ⟨rfl, hb5⟩
        have Hd5 := Lib.hid (Hd2.out.trans (hb5.mono Hd2.out.size))
        clear hb5
        go_wp2
        go_roundw
        case rel => exact ⟨j + 1, x + rg, y + rt, by omega, by go_num, rfl, rfl, by omega, by omega, by omega, by omega, HS2.out, Hd5.out⟩
        case measure => simp [intOf]; omega
      · have q1 : (rh == k) = false := by simpa using h1
        by_cases h2 : ra = k
        · have q2 : (ra == k) = true := by simp [h2]
          have HS2 : Hid (goalsAcc k (x + rt) (y + rg) (rs.drop (j + 1)) = R) := Lib.hid (by have := HS1.out; rwa [if_neg h1, if_pos h2] at this)
          have ho1 : ownG rh rg rt k = rt := by rw [ownG, if_neg (fun e => h1 e.symm)]
          have ho2 : othG rh rg rt k = rg := by rw [othG, if_neg (fun e => h1 e.symm)]
          have Hgf := Lib.hid (fun W => by have := Hgf.out W; rw [ho1, ho2] at this; exact this)
          clear ho1 ho2
          have H1 := Lib.hid h1
          have H2 := Lib.hid h2
          clear h1 h2
          go_wp2_with fail
          refine (Hgf.out _).mono ?_
          rintro e w5 ⟨rfl, hb5⟩
          have Hd5 := Lib.hid (Hd2.out.trans (hb5.mono Hd2.out.size))
          clear hb5
          go_wp2
          go_roundw
          case rel => exact ⟨j + 1, x + rt, y + rg, by omega, by go_num, rfl, rfl, by omega, by omega, by omega, by omega, HS2.out, Hd5.out⟩
          case measure => simp [intOf]; omega
        · have q2 : (ra == k) = false := by simpa using h2
          have HS2 : Hid (goalsAcc k x y (rs.drop (j + 1)) = R) := Lib.hid (by have := HS1.out; rwa [if_neg h1, if_neg h2] at this)
          have H1 := Lib.hid h1
          have H2 := Lib.hid h2
          clear h1 h2
          go_wp2
          go_roundw
          case rel => exact ⟨j + 1, x, y, by omega, by go_num, rfl, rfl, by omega, by omega, by omega, by omega, HS2.out, Hd2.out⟩
          case measure => simp [intOf]; omega
    · obtain rfl : j = m := by omega
      have hS1 : (x, y) = R := by have := HS.out; rwa [drop_end (l := rs) (by rw [Hm.out]; exact Nat.le_refl _), goalsAcc] at this
      subst hS1
      go_wp2
      go_ret2
      exact ⟨rfl, Hd.out⟩

set_option maxHeartbeats 4000000 in
theorem l12Goals_c (n : Nat) (A : Option Addr) (c : Nat) (rs : List Res) (k : Int) (w : World) (ha : Games w A rs) (hok : leagueOk n rs = true) :
    Calls Try.prog 85 #[lgv n A rs.length c, .int .i64 k] w (Gives w (.tuple #[.int .i64 (madeF rs k), .int .i64 (agstF rs k)])) := by
  obtain ⟨R, hR⟩ : ∃ R, goalsAcc k 0 0 rs = R := ⟨_, rfl⟩
  have hm0 : madeF rs k = R.1 := by rw [madeF, hR]
  have ha0 : agstF rs k = R.2 := by rw [agstF, hR]
  rw [hm0, ha0]
  have hL := league_of hok
  have hm60 := hL.few
  have hrs := hL.ok
  unfold lgv
  obtain ⟨m, hm⟩ : ∃ m, rs.length = m := ⟨_, rfl⟩
  rw [hm] at hm60 ⊢
  obtain ⟨b0, b1⟩ := box2 w (.int .i64 (n : Int)) (.slice A m c) 29
  have hb1 : Below w.heap.size w (w.alloc (.cells #[.int .i64 (n : Int), .slice A m c] 29)) := (Below.refl _ _).alloc (Nat.le_refl _) _
  have Ha := Lib.hid ha
  have Hm := Lib.hid hm
  have Hrs := Lib.hid hrs
  have Hb1 := Lib.hid hb1
  have HR := Lib.hid hR
  clear ha hm hrs hb1 hR
  clear hL hok hm0 ha0
  go_enter Try.func85, Try.ntmps85
  go_wp2
  go_loopw [6, 7, 13] (fun p q i wr => ∃ (j : Nat) (x y : Int), j ≤ m ∧ i = .int .i64 j ∧ p = .int .i64 x ∧ q = .int .i64 y ∧ 0 ≤ x ∧ x ≤ 99 * (j : Int) ∧ 0 ≤ y ∧ y ≤ 99 * (j : Int) ∧ goalsAcc k x y (rs.drop j) = R ∧ Below w.heap.size w wr) (fun _ _ i _ => m - (intOf i).toNat)
  case atStart => exact ⟨0, 0, 0, Nat.zero_le _, rfl, rfl, rfl, by omega, by omega, by omega, by omega, HR.out, Hb1.out⟩
  case round =>
    obtain ⟨j, x, y, hj, rfl, rfl, rfl, x0, x1, y0, y1, hS, hd⟩ := hrel
    have Hd := Lib.hid hd
    have HS := Lib.hid hS
    clear hd hS
    by_cases hlt : j < m
    · have hji : (j : Int) < (m : Int) := by omega
      obtain ⟨r, hr⟩ := some_of (l := rs) (k := j) (by rw [Hm.out]; exact hlt)
      have hro := resOk_of (Hrs.out r (List.mem_of_getElem? hr))
      obtain ⟨ad, rfl, a0, a1, a2, a3⟩ := (Ha.out.keep (keep_of_below Hd.out)) j _ hr
      have HS1 : Hid ((if r.h = k then goalsAcc k (x + r.g) (y + r.t) (rs.drop (j + 1)) else if r.a = k then goalsAcc k (x + r.t) (y + r.g) (rs.drop (j + 1)) else goalsAcc k x y (rs.drop (j + 1))) = R) := Lib.hid (by have := HS.out; rwa [drop_of hr, goalsAcc] at this)
      have g0 := hro.g0
      have g9 := hro.g9
      have t0 := hro.t0
      have t9 := hro.t9
      have hne := hro.ne
      obtain ⟨rh, ra, rg, rt⟩ := r
      simp only at a0 a1 a2 a3 g0 g9 t0 t9 hne HS1
      have e1 : IntKind.i64.wrap (x + rg) = x + rg := IntWalk.i64_in _ (by omega)
      have e2 : IntKind.i64.wrap (y + rt) = y + rt := IntWalk.i64_in _ (by omega)
      have e3 : IntKind.i64.wrap (x + rt) = x + rt := IntWalk.i64_in _ (by omega)
      have e4 : IntKind.i64.wrap (y + rg) = y + rg := IntWalk.i64_in _ (by omega)
      obtain ⟨b0, b1, b2, b3⟩ := box4 wr (.int .i64 rh) (.int .i64 ra) (.int .i64 rg) (.int .i64 rt) 47
      have hbr : Below wr.heap.size wr (wr.alloc (.cells #[.int .i64 rh, .int .i64 ra, .int .i64 rg, .int .i64 rt] 47)) := (Below.refl _ _).alloc (Nat.le_refl _) _
      have hd2 := Hd.out.trans (hbr.mono Hd.out.size)
      have hgf := fun W => goalsFor_c rh ra rg rt k W
      have Hr := Lib.hid hr
      have Hbr := Lib.hid hbr
      have Hd2 := Lib.hid hd2
      have Hgf := Lib.hid hgf
      have Hne := Lib.hid hne
      clear hr hbr hd2 hgf hne
      clear HS hro
      by_cases h1 : rh = k
      · have q1 : (rh == k) = true := by simp [h1]
        have q2 : (ra == k) = false := by rw [beq_eq_false_iff_ne]; intro e; exact Hne.out (by rw [h1, e])
        have HS2 : Hid (goalsAcc k (x + rg) (y + rt) (rs.drop (j + 1)) = R) := Lib.hid (by have := HS1.out; rwa [if_pos h1] at this)
        have H1 := Lib.hid h1
        clear h1
        go_wp2
        go_roundw
        case rel => exact ⟨j + 1, x + rg, y + rt, by omega, by go_num, rfl, rfl, by omega, by omega, by omega, by omega, HS2.out, Hd2.out⟩
        case measure => simp [intOf]; omega
      · have q1 : (rh == k) = false := by simpa using h1
        by_cases h2 : ra = k
        · have q2 : (ra == k) = true := by simp [h2]
          have HS2 : Hid (goalsAcc k (x + rt) (y + rg) (rs.drop (j + 1)) = R) := Lib.hid (by have := HS1.out; rwa [if_neg h1, if_pos h2] at this)
          have H1 := Lib.hid h1
          have H2 := Lib.hid h2
          clear h1 h2
          go_wp2
          go_roundw
          case rel => exact ⟨j + 1, x + rt, y + rg, by omega, by go_num, rfl, rfl, by omega, by omega, by omega, by omega, HS2.out, Hd2.out⟩
          case measure => simp [intOf]; omega
        · have q2 : (ra == k) = false := by simpa using h2
          have HS2 : Hid (goalsAcc k x y (rs.drop (j + 1)) = R) := Lib.hid (by have := HS1.out; rwa [if_neg h1, if_neg h2] at this)
          have H1 := Lib.hid h1
          have H2 := Lib.hid h2
          clear h1 h2
          go_wp2
          go_roundw
          case rel => exact ⟨j + 1, x, y, by omega, by go_num, rfl, rfl, by omega, by omega, by omega, by omega, HS2.out, Hd2.out⟩
          case measure => simp [intOf]; omega
    · obtain rfl : j = m := by omega
      have hS1 : (x, y) = R := by have := HS.out; rwa [drop_end (l := rs) (by rw [Hm.out]; exact Nat.le_refl _), goalsAcc] at this
      subst hS1
      go_wp2
      go_ret2
      exact ⟨rfl, Hd.out⟩

end Go.Proofs.Ytehlijpjcjegcaa
