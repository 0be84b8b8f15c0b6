
/- Contracts: how many patterns of a set are at home; even lists of patterns (program and reference). -/
import Derived.Test.YtfkccgblgjpalaaGreatPats
import Derived.Test.YtfkccgblgjpalaaGreatMem
namespace Go.Proofs.YtfkccgblgjpalaaGreat
open Go.RowKit

def homeL (ss : List ByteArray) (a : Nat) : List Bool := ss.map fun p => decide (p.data.toList[a]? = some 72)
/-- How many of a set's patterns are at home. -/
def homesIn : Nat → Nat → List Bool → Nat
  | s, _, [] => s
  | s, x, h :: r => homesIn (if x % 2 = 1 ∧ h = true then s + 1 else s) (x / 2) r
def homesAtL (L : List Bool) : Nat → List Nat → Nat
  | s, [] => s
  | s, k :: r => homesAtL L (if L.getD k false = true then s + 1 else s) r
theorem homesAtL_bits (L : List Bool) : ∀ (f a x s : Nat), L.length = a + f → homesAtL L s (bitsF f a x) = homesIn s x (L.drop a)
  | 0, a, x, s, h => by rw [List.drop_of_length_le (by omega)]; rfl
  | f + 1, a, x, s, h => by
    obtain ⟨v, hv⟩ := some_of (l := L) (k := a) (by omega)
    have ih := fun s => homesAtL_bits L f (a + 1) (x / 2) s (by omega)
    rw [drop_of hv]
    simp only [bitsF, homesIn]
    by_cases hx : x % 2 = 1
    · rw [if_pos hx, homesAtL, ih, show L.getD a false = v from by simp [hv]]
      simp [hx]
    · rw [if_neg hx, ih]; simp [hx]
theorem homesIn_le : ∀ (L : List Bool) (x s : Nat), s ≤ homesIn s x L ∧ homesIn s x L ≤ s + L.length
  | [], x, s => by simp [homesIn]
  | h :: r, x, s => by
    rw [List.length_cons]
    by_cases hc : x % 2 = 1 ∧ h = true
    · rw [homesIn, if_pos hc]; have := homesIn_le r (x / 2) (s + 1); omega
    · rw [homesIn, if_neg hc]; have := homesIn_le r (x / 2) s; omega
/-- The set of those at home, as a number. -/
def homeN : List Bool → Nat
  | [] => 0
  | h :: r => (if h = true then 1 else 0) + 2 * homeN r
theorem homeN_lt : ∀ L : List Bool, homeN L < 2 ^ L.length
  | [] => by simp [homeN]
  | h :: r => by
    have := homeN_lt r
    rw [homeN, List.length_cons, Nat.pow_succ]
    split <;> omega
theorem homeN_bits : ∀ (L : List Bool) (a x s : Nat), s + (bitsF L.length a (homeN L &&& x)).length = homesIn s x L
  | [], a, x, s => by simp [bitsF, homesIn]
  | h :: r, a, x, s => by
    have hmod : (homeN (h :: r) &&& x) % 2 = 1 ↔ (x % 2 = 1 ∧ h = true) := by
      have h1 := Nat.testBit_zero (homeN (h :: r) &&& x)
      rw [Nat.testBit_and, Nat.testBit_zero, Nat.testBit_zero] at h1
      have h2 : homeN (h :: r) % 2 = 1 ↔ h = true := by
        rw [homeN]; cases h <;> simp <;> omega
      rw [← h2]
      constructor
      · intro h3; rw [decide_eq_true h3] at h1; simp at h1; exact ⟨h1.2, h1.1⟩
      · rintro ⟨h3, h4⟩; rw [decide_eq_true h3, decide_eq_true h4] at h1; simpa using h1.symm
    have hdiv : (homeN (h :: r) &&& x) / 2 = homeN r &&& (x / 2) := by
      rw [Nat.and_div_two]
      congr 1
      rw [homeN]; split <;> omega
    have ih := homeN_bits r (a + 1) (x / 2)
    rw [List.length_cons, bitsF, homesIn, hdiv]
    by_cases hc : x % 2 = 1 ∧ h = true
    · rw [if_pos hc, if_pos (hmod.2 hc), List.length_cons, ← ih]; omega
    · rw [if_neg hc, if_neg (fun h => hc (hmod.1 h)), ← ih]
theorem homesIn_all : ∀ (L : List Bool) (s m : Nat), L.length ≤ m → homesIn s (2 ^ m - 1) L = s + (bitsF L.length 0 (homeN L)).length
  | [], s, m, _ => by simp [homesIn, bitsF]
  | h :: r, s, 0, hm => by simp at hm
  | h :: r, s, m + 1, hm => by
    rw [List.length_cons] at hm
    have hp : 1 ≤ 2 ^ m := Nat.one_le_two_pow
    have e1 : (2 ^ (m + 1) - 1) % 2 = 1 := by rw [Nat.pow_succ]; omega
    have e2 : (2 ^ (m + 1) - 1) / 2 = 2 ^ m - 1 := by rw [Nat.pow_succ]; omega
    have ih := fun s => homesIn_all r s m (by omega)
    rw [homesIn, e2, ih, List.length_cons, bitsF]
    have h2 : homeN (h :: r) % 2 = 1 ↔ h = true := by
      rw [homeN]; cases h <;> simp <;> omega
    have h3 : homeN (h :: r) / 2 = homeN r := by rw [homeN]; split <;> omega
    rw [h3, bitsF_len_eq r.length 0 (0 + 1)]
    by_cases hh : h = true
    · rw [if_pos ⟨e1, hh⟩, if_pos (h2.2 hh), List.length_cons]; omega
    · rw [if_neg (fun h => hh h.2), if_neg (fun h => hh (h2.1 h))]

theorem byte_home (p : ByteArray) (a : Nat) (h : a < p.size) : decide (p.data.toList[a]? = some 72) = ((p[a].toNat : Int) == 72) := by
  rw [bytes_at p a h, Bool.eq_iff_iff, decide_eq_true_iff, beq_iff_eq]
  constructor
  · intro e; injection e with e; rw [e]; rfl
  · intro e; congr 1; exact UInt8.toNat_inj.1 (by have : (72 : UInt8).toNat = 72 := rfl; omega)

set_option maxHeartbeats 1000000 in
theorem homesAt_c (A : Option Addr) (c : Nat) (ss : List ByteArray) (x a : Nat) (w : World) (ha : Strs w A ss) (hn : ss.length ≤ 10) (hx : x < 2 ^ ss.length) (hsz : ∀ p ∈ ss, a < p.size) :
    Calls Tryz.prog 45 #[.slice A ss.length c, .int .i64 x, .int .i64 a] w (Gives w (.int .i64 ((homesIn 0 x (homeL ss a) : Nat) : Int))) := by
  generalize hR : homesIn 0 x (homeL ss a) = R
  have HR := Lib.hid hR
  clear hR
  have HS : Hid (homesAtL (homeL ss a) 0 (bitsF ss.length 0 x) = R) := Lib.hid (by rw [← HR.out, homesAtL_bits _ _ _ _ _ (by simp [homeL])]; simp)
  have hmc := membersOf_c ss.length x w hx (by omega)
  have hms : ∀ k ∈ bitsF ss.length 0 x, k < ss.length := fun k hk => by have := bitsF_lt _ _ _ _ hk; omega
  have hml := bitsF_len ss.length 0 x
  generalize bitsF ss.length 0 x = ms at hms hml HS hmc
  have hlm : (ms.map Int.ofNat).length = ms.length := by simp
  have hlL : (homeL ss a).length = ss.length := by simp [homeL]
  have Ha := Lib.hid ha
  have Hmc := Lib.hid hmc
  have Hms := Lib.hid hms
  have Hsz := Lib.hid hsz
  clear ha hmc hms hsz
  go_enter Tryz.func45, Tryz.ntmps45
  go_wp2_with fail
  refine Hmc.out.mono ?_
  rintro e w2 ⟨C, cc, rfl, ho, hb2⟩
  rw [hlm]
  have Hb2 := Lib.hid hb2
  have Ho := Lib.hid ho.ints
  have Ha2 := Lib.hid (Ha.out.keep (keep_of_below hb2))
  clear hb2 ho hlm
  go_wp2
  go_loopw [13, 7] (fun i m wr => ∃ (j s : Nat), j ≤ ms.length ∧ s ≤ j ∧ i = .int .i64 j ∧ m = .int .i64 s ∧ homesAtL (homeL ss a) s (ms.drop j) = R ∧ Dr w2 wr) (fun i _ _ => ms.length - (intOf i).toNat)
  case atStart => exact ⟨0, 0, Nat.zero_le _, Nat.le_refl _, rfl, rfl, HS.out, Dr.refl _⟩
  case round =>
    obtain ⟨j, s, hj, hs, rfl, rfl, hS, hd⟩ := hrel
    have HS := Lib.hid hS
    have Hd := Lib.hid hd
    clear hS hd
    by_cases hlt : j < ms.length
    · obtain ⟨k, hk⟩ := some_of hlt
      obtain ⟨ad, rfl, hca⟩ := Ho.out.keep Hd.out.keep j (Int.ofNat k) (map_some hk)
      have hca' : wr.cell? (ad.add j) = some (.int .i64 (k : Int)) := hca
      have hkn := Hms.out k (List.mem_of_getElem? hk)
      obtain ⟨p, hp⟩ := some_of hkn
      obtain ⟨ae, rfl, hcv⟩ := Ha2.out.keep Hd.out.keep k p hp
      have hap := Hsz.out p (List.mem_of_getElem? hp)
      have hbh := byte_home p a hap
      have hg : (homeL ss a).getD k false = ((p[a].toNat : Int) == 72) := by rw [← hbh]; simp [homeL, hp]
      have HS1 : Hid (homesAtL (homeL ss a) (if ((p[a].toNat : Int) == 72) = true then s + 1 else s) (ms.drop (j + 1)) = R) := Lib.hid (by have := HS.out; rwa [drop_of hk, homesAtL, hg] at this)
      have hki : (k : Int) < (ss.length : Int) := by omega
      have hai : (a : Int) < (p.size : Int) := by omega
      have Hk := Lib.hid hk
      have Hp := Lib.hid hp
      have Hbh := Lib.hid hbh
      have Hg := Lib.hid hg
      clear hk hp hbh hg
      clear hca
      cases hh : ((p[a].toNat : Int) == 72)
      · have HS2 : Hid (homesAtL (homeL ss a) s (ms.drop (j + 1)) = R) := Lib.hid (by have := HS1.out; rwa [hh, if_neg (by decide)] at this)
        go_wp2
        go_roundw
        case rel => exact ⟨j + 1, s, by omega, by omega, by go_num, by go_num, HS2.out, Hd.out⟩
        case measure => simp [intOf]; omega
      · have HS2 : Hid (homesAtL (homeL ss a) (s + 1) (ms.drop (j + 1)) = R) := Lib.hid (by have := HS1.out; rwa [hh, if_pos rfl] at this)
        go_wp2
        go_roundw
        case rel => exact ⟨j + 1, s + 1, by omega, by omega, by go_num, by go_num, HS2.out, Hd.out⟩
        case measure => simp [intOf]; omega
    · obtain rfl : j = ms.length := by omega
      have HS1 : Hid (s = R) := Lib.hid (by have := HS.out; rwa [List.drop_length, homesAtL] at this)
      go_wp2
      go_ret
      exact ⟨ret_int (by rw [HS1.out]), below_dr Hb2.out Hd.out⟩

theorem homeN_snoc : ∀ (L : List Bool) (h : Bool), homeN (L ++ [h]) = homeN L + (if h = true then 2 ^ L.length else 0)
  | [], h => by simp [homeN]
  | g :: r, h => by
    rw [List.cons_append, homeN, homeN, homeN_snoc r h, List.length_cons, Nat.pow_succ]
    by_cases hh : h = true
    · rw [if_pos hh, if_pos hh]; omega
    · rw [if_neg hh, if_neg hh]; omega

def cntH (ss : List ByteArray) (a : Nat) : Nat := (bitsF ss.length 0 (homeN (homeL ss a))).length
def evenFrom (ss : List ByteArray) : Nat → Nat → Bool
  | 0, _ => true
  | f + 1, a => decide (2 * cntH ss a = ss.length) && evenFrom ss f (a + 1)
def evenF (ss : List ByteArray) : Bool := patsOk ss && evenFrom ss (ss.headD ByteArray.empty).size 0
theorem patsOk_true {ss : List ByteArray} (h : patsOk ss = true) : 2 ≤ ss.length ∧ ss.length ≤ 10 ∧ ss.length % 2 = 0 ∧ ∃ p0, ss[0]? = some p0 ∧ ss.headD ByteArray.empty = p0 ∧ p0.size ≤ 36 ∧ ∀ p ∈ ss, p.size = p0.size := by
  simp only [patsOk, Bool.and_eq_true, List.all_eq_true] at h
  have hn := isClubs_true h.1
  obtain ⟨s0, hs0⟩ := some_of (l := ss) (k := 0) (by omega)
  have hh : (ss.headD ByteArray.empty) = s0 := by cases ss with
    | nil => simp at hs0
    | cons a l => simpa using hs0
  have hf := fun p hp => h.2 p hp
  rw [hh] at hf
  simp only [fits, Bool.and_eq_true, decide_eq_true_eq] at hf
  have h36 := (hf s0 (List.mem_of_getElem? hs0)).1
  simp only [patOk, Bool.and_eq_true, decide_eq_true_eq] at h36
  exact ⟨by omega, by omega, by omega, s0, hs0, hh, h36.1, fun p hp => (hf p hp).2⟩
theorem strs_zero {w : World} {A : Option Addr} {ss : List ByteArray} {p0 : ByteArray} (h : Strs w A ss) (h0 : ss[0]? = some p0) : ∃ ad, A = some ad ∧ w.cell? ad = some (.string p0) := by
  obtain ⟨ad, e, hc⟩ := h 0 p0 h0
  rw [Addr.add_zero'] at hc
  exact ⟨ad, e, hc⟩

set_option maxHeartbeats 1000000 in
theorem iIsEven_c (A : Option Addr) (c : Nat) (ss : List ByteArray) (w : World) (ha : Strs w A ss) (hm : ss.length ≤ 1048576) :
    Calls Tryz.prog 13 #[.slice A ss.length c] w (Gives w (.bool (evenF ss))) := by
  generalize hR : evenF ss = R
  have HR := Lib.hid hR
  clear hR
  have Ha := Lib.hid ha
  clear ha
  cases h1 : patsOk ss
  · have HS : Hid (false = R) := Lib.hid (by rw [← HR.out]; simp [evenF, h1])
    have H1 := Lib.hid h1
    clear h1
    go_enter Tryz.func13, Tryz.ntmps13
    go_wp2_with fail
    refine (gives_v (iPatternsOk_c _ _ _ _ Ha.out hm) (congrArg Value.bool H1.out)).mono ?_
    rintro e w1 ⟨rfl, hb1⟩
    go_wp2
    go_ret
    exact ⟨ret_bool HS.out, hb1⟩
  · obtain ⟨n2, n10, nev, p0, hp0, hh, h36, hsz⟩ := patsOk_true h1
    have HS : Hid (evenFrom ss p0.size 0 = R) := Lib.hid (by rw [← HR.out, evenF, h1, hh]; rfl)
    obtain ⟨N, hN⟩ : ∃ N, 2 ^ ss.length = N := ⟨_, rfl⟩
    have hN64 : N ≤ 1024 := by rw [← hN]; exact Nat.le_trans (Nat.pow_le_pow_right (by decide) n10) (by decide)
    have hN1 : 1 ≤ N := by rw [← hN]; exact Nat.one_le_two_pow
    have e0 : wrap64 ((2 : Int) ^ ss.length) = (N : Int) := pow_wrap hN (by omega)
    obtain ⟨Q, hQ⟩ : ∃ Q, N = Q + 1 := ⟨N - 1, by omega⟩
    have e1 : IntKind.i64.wrap ((N : Int) - 1) = (Q : Int) := by rw [IntWalk.i64_in _ (by omega)]; omega
    obtain ⟨m, hm2⟩ : ∃ m, ss.length = 2 * m := ⟨ss.length / 2, by omega⟩
    have hm10 : m ≤ 10 := by omega
    have e2 : (ss.length : Int).tdiv 2 = (m : Int) := by rw [Int.tdiv_eq_ediv_of_nonneg (by omega)]; omega
    have hn0 : (0 : Int) < (ss.length : Int) := by omega
    have H1 := Lib.hid h1
    have Hh := Lib.hid hh
    have HN := Lib.hid hN
    have HQ := Lib.hid hQ
    have Hm2 := Lib.hid hm2
    have Hsz := Lib.hid hsz
    have Hp0 := Lib.hid hp0
    have Nev := Lib.hid nev
    clear h1 hh hN hQ hm2 hsz hp0 nev
    go_enter Tryz.func13, Tryz.ntmps13
    go_wp2_with fail
    refine (gives_v (iPatternsOk_c _ _ _ _ Ha.out hm) (congrArg Value.bool H1.out)).mono ?_
    rintro e w1 ⟨rfl, hb1⟩
    have Hb1 := Lib.hid hb1
    obtain ⟨ad, rfl, hc0⟩ := strs_zero (Ha.out.keep (keep_of_below hb1)) Hp0.out
    clear hb1
    go_wp2
    clear hc0
    go_loopw [11] (fun i wr => ∃ a f : Nat, a + f = p0.size ∧ i = .int .i64 a ∧ evenFrom ss f a = R ∧ Below w.heap.size w wr) (fun i _ => p0.size - (intOf i).toNat)
    case atStart => exact ⟨0, p0.size, by omega, rfl, HS.out, Hb1.out⟩
    case round =>
      obtain ⟨a, f, haf, rfl, hS, hd⟩ := hrel
      have HS := Lib.hid hS
      have Hd := Lib.hid hd
      clear hS hd
      by_cases hlt : a < p0.size
      · obtain ⟨f, rfl⟩ : ∃ f', f = f' + 1 := ⟨f - 1, by omega⟩
        obtain ⟨h, hhh⟩ : ∃ h, cntH ss a = h := ⟨_, rfl⟩
        have HS1 : Hid ((decide (2 * h = ss.length) && evenFrom ss f (a + 1)) = R) := Lib.hid (by have := HS.out; rwa [evenFrom, hhh] at this)
        have hca := homesAt_c (some ad) c ss Q a wr (Ha.out.keep (keep_of_below Hd.out)) n10 (by rw [HN.out, HQ.out]; omega) (fun p hp => by rw [Hsz.out p hp]; exact hlt)
        have hho : homesIn 0 Q (homeL ss a) = h := by
          have := homesIn_all (homeL ss a) 0 ss.length (by simp [homeL])
          rw [HN.out, HQ.out] at this
          simp only [Nat.add_sub_cancel, Nat.zero_add] at this
          rw [this, ← hhh, cntH]; simp [homeL]
        rw [hho] at hca
        have Hca := Lib.hid hca
        have Hhh := Lib.hid hhh
        have Hho := Lib.hid hho
        clear hca hhh hho
        by_cases hhm : h = m
        · have hhm' : ((h : Int) != (m : Int)) = false := by simp [hhm]
          have hhm2 : (h != m) = false := by simp [hhm]
          have HS2 : Hid (evenFrom ss f (a + 1) = R) := Lib.hid (by have := HS1.out; rwa [decide_eq_true (by rw [hhm, Hm2.out]), Bool.true_and] at this)
          have Hhm := Lib.hid hhm
          clear hhm
          go_wp2_with fail
          refine (Hca.out).mono ?_
          rintro e w2 ⟨rfl, hb2⟩
          have Hd2 := Lib.hid (Hd.out.trans (hb2.mono Hd.out.size))
          clear hb2
          go_wp2
          go_roundw
          case rel => exact ⟨a + 1, f, by omega, by go_num, HS2.out, Hd2.out⟩
          case measure => simp [intOf]; omega
        · have hhm' : ((h : Int) != (m : Int)) = true := by rw [bne_iff_ne]; omega
          have hhm2 : (h != m) = true := by simpa using hhm
          have HS2 : Hid (false = R) := Lib.hid (by have := HS1.out; rwa [decide_eq_false (by have := Hm2.out; omega), Bool.false_and] at this)
          have Hhm := Lib.hid hhm
          clear hhm
          go_wp2_with fail
          refine (Hca.out).mono ?_
          rintro e w2 ⟨rfl, hb2⟩
          go_wp2
          go_ret
          exact ⟨ret_bool HS2.out, Hd.out.trans (hb2.mono Hd.out.size)⟩
      · obtain rfl : f = 0 := by omega
        have HS1 : Hid (true = R) := Lib.hid (by have := HS.out; rwa [evenFrom] at this)
        go_wp2
        go_ret
        exact ⟨ret_bool HS1.out, Hd.out⟩

end Go.Proofs.YtfkccgblgjpalaaGreat
