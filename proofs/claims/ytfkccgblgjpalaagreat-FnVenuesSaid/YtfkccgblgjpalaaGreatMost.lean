
/- Contracts: how many meetings the clubs of a set can have at most (program and reference). -/
import Derived.Test.YtfkccgblgjpalaaGreatEven
import Derived.Test.YtfkccgblgjpalaaGreatOnes
namespace Go.Proofs.YtfkccgblgjpalaaGreat
open Go.RowKit

theorem bitsF_more : ∀ (f g a x : Nat), x < 2 ^ f → f ≤ g → (bitsF g a x).length = (bitsF f a x).length
  | 0, g, a, x, hx, _ => by
    have : x = 0 := by simpa using hx
    subst this; rw [bitsF_zero, bitsF_zero]
  | f + 1, 0, a, x, _, h => by omega
  | f + 1, g + 1, a, x, hx, h => by
    have ih := bitsF_more f g (a + 1) (x / 2) (by rw [Nat.pow_succ] at hx; omega) (by omega)
    by_cases hc : x % 2 = 1 <;> simp [bitsF, hc, ih]
theorem homesIn_card : ∀ (L : List Bool) (x s a : Nat), homesIn s x L ≤ s + (bitsF L.length a x).length
  | [], x, s, a => by simp [homesIn]
  | h :: r, x, s, a => by
    rw [List.length_cons, bitsF]
    by_cases hx : x % 2 = 1
    · rw [if_pos hx, List.length_cons]
      by_cases hh : h = true
      · rw [homesIn, if_pos ⟨hx, hh⟩]; have := homesIn_card r (x / 2) (s + 1) (a + 1); omega
      · rw [homesIn, if_neg (fun h => hh h.2)]; have := homesIn_card r (x / 2) s (a + 1); omega
    · rw [if_neg hx, homesIn, if_neg (fun h => hx h.1)]
      exact homesIn_card r (x / 2) s (a + 1)
def card (ss : List ByteArray) (x : Nat) : Nat := (bitsF ss.length 0 x).length
def mostAt (ss : List ByteArray) (x a : Nat) : Nat := min (homesIn 0 x (homeL ss a)) (card ss x - homesIn 0 x (homeL ss a))
def mostFrom (ss : List ByteArray) (x : Nat) : Nat → Nat → Nat → Nat
  | 0, _, s => s
  | f + 1, a, s => mostFrom ss x f (a + 1) (s + mostAt ss x a)
def mostN (ss : List ByteArray) (x : Nat) : Nat := mostFrom ss x (ss.headD ByteArray.empty).size 0 0
/-- Patterns of one length. -/
structure Pats (ss : List ByteArray) (p0 : ByteArray) : Prop where
  two : 2 ≤ ss.length
  ten : ss.length ≤ 10
  first : ss[0]? = some p0
  head : ss.headD ByteArray.empty = p0
  few : p0.size ≤ 36
  same : ∀ p ∈ ss, p.size = p0.size
theorem pats_of {ss : List ByteArray} (h : patsOk ss = true) : ∃ p0, Pats ss p0 := by
  obtain ⟨h1, h2, _, p0, h3, h4, h5, h6⟩ := patsOk_true h
  exact ⟨p0, h1, h2, h3, h4, h5, h6⟩
theorem card_le (ss : List ByteArray) (x : Nat) : card ss x ≤ ss.length := bitsF_len _ _ _
theorem home_card (ss : List ByteArray) (x a : Nat) : homesIn 0 x (homeL ss a) ≤ card ss x := by
  have := homesIn_card (homeL ss a) x 0 0
  rw [Nat.zero_add] at this
  rw [card, show ss.length = (homeL ss a).length from by simp [homeL]]
  exact this
theorem mostFrom_le (ss : List ByteArray) (x : Nat) : ∀ (f a s : Nat), mostFrom ss x f a s ≤ s + ss.length * f
  | 0, a, s => by simp [mostFrom]
  | f + 1, a, s => by
    rw [mostFrom]
    have h1 := mostFrom_le ss x f (a + 1) (s + mostAt ss x a)
    have h2 : mostAt ss x a ≤ ss.length := Nat.le_trans (Nat.min_le_left _ _) (Nat.le_trans (home_card ss x a) (card_le ss x))
    rw [Nat.mul_succ]; omega

set_option maxHeartbeats 2000000 in
theorem mostMeetings_c (A : Option Addr) (c : Nat) (ss : List ByteArray) (p0 : ByteArray) (x : Nat) (w : World) (ha : Strs w A ss) (hp : Pats ss p0) (hx : x < 2 ^ ss.length) :
    Calls Tryz.prog 44 #[.slice A ss.length c, .int .i64 x] w (Gives w (.int .i64 ((mostN ss x : Nat) : Int))) := by
  generalize hR : mostN ss x = R
  have HR := Lib.hid hR
  clear hR
  have HS : Hid (mostFrom ss x p0.size 0 0 = R) := Lib.hid (by rw [← HR.out, mostN, hp.head])
  have h36 := hp.few
  have h10 := hp.ten
  have hn0 : (0 : Int) < (ss.length : Int) := by have := hp.two; omega
  have hx1024 : x < 1024 := Nat.lt_of_lt_of_le hx (Nat.le_trans (Nat.pow_le_pow_right (by decide) h10) (by decide))
  obtain ⟨cd, hcd⟩ : ∃ cd, card ss x = cd := ⟨_, rfl⟩
  have hcd10 : cd ≤ 10 := by rw [← hcd]; exact Nat.le_trans (card_le ss x) h10
  have hoc := fun W => calls_v (onesCount_c x W hx1024) (congrArg (fun x : Nat => Value.int .i64 x) (show (bitsF 10 0 x).length = cd from by rw [← hcd, card]; exact bitsF_more _ _ _ _ hx h10))
  have wx : IntKind.u64.wrap (x : Int) = (x : Int) := u64_in _ (by omega)
  obtain ⟨ad, rfl, hc0⟩ := strs_zero ha hp.first
  have Ha := Lib.hid ha
  have Hp := Lib.hid hp
  have Hx := Lib.hid hx
  have Hcd := Lib.hid hcd
  have Hoc := Lib.hid hoc
  clear ha hp hx hcd hoc
  go_enter Tryz.func44, Tryz.ntmps44
  go_wp2
  clear hc0
  go_loopw [12, 5] (fun i m wr => ∃ a f s : Nat, a + f = p0.size ∧ i = .int .i64 a ∧ m = .int .i64 s ∧ s ≤ 10 * a ∧ mostFrom ss x f a s = R ∧ Below w.heap.size w wr) (fun i _ _ => p0.size - (intOf i).toNat)
  case atStart => exact ⟨0, p0.size, 0, by omega, rfl, rfl, by omega, HS.out, Below.refl _ _⟩
  case round =>
    obtain ⟨a, f, s, haf, rfl, rfl, hs, hS, hd⟩ := hrel
    have HS := Lib.hid hS
    have Hd := Lib.hid hd
    clear hS hd
    by_cases hlt : a < p0.size
    · obtain ⟨f, rfl⟩ : ∃ f', f = f' + 1 := ⟨f - 1, by omega⟩
      obtain ⟨h, hh⟩ : ∃ h, homesIn 0 x (homeL ss a) = h := ⟨_, rfl⟩
      have hhc : h ≤ cd := by rw [← hh, ← Hcd.out]; exact home_card ss x a
      have HS1 : Hid (mostFrom ss x f (a + 1) (s + min h (cd - h)) = R) := Lib.hid (by have := HS.out; rwa [mostFrom, mostAt, hh, Hcd.out] at this)
      have hca := homesAt_c (some ad) c ss x a wr (Ha.out.keep (keep_of_below Hd.out)) h10 Hx.out (fun p hpp => by rw [Hp.out.same p hpp]; exact hlt)
      rw [hh] at hca
      have w1 : IntKind.i64.wrap ((cd : Int) - (h : Int)) = (cd : Int) - (h : Int) := IntWalk.i64_in _ (by omega)
      have hmn : min (h : Int) ((cd : Int) - (h : Int)) = ((min h (cd - h) : Nat) : Int) := by omega
      have hm10 : min h (cd - h) ≤ 10 := by omega
      obtain ⟨mn, hmm⟩ : ∃ mn, min h (cd - h) = mn := ⟨_, rfl⟩
      rw [hmm] at hmn hm10 HS1
      have w2 : IntKind.i64.wrap ((s : Int) + (mn : Int)) = (s : Int) + (mn : Int) := IntWalk.i64_in _ (by omega)
      have Hca := Lib.hid hca
      have Hh := Lib.hid hh
      have Hmm := Lib.hid hmm
      clear hca hh hmm
      go_wp2_with fail
      refine (Hca.out).mono ?_
      rintro e w2' ⟨rfl, hb2⟩
      have Hd2 := Lib.hid (Hd.out.trans (hb2.mono Hd.out.size))
      clear hb2
      go_wp2_with fail
      refine (Hoc.out _).mono ?_
      rintro e w3 ⟨rfl, hq3⟩
      have Hd3 := Lib.hid (below_dr Hd2.out hq3)
      clear hq3
      go_wp2
      all_goals
        go_roundw
        case rel => exact ⟨a + 1, f, s + mn, by omega, by go_num, (by first | go_num | (have := Hmm.out; go_num)), by omega, HS1.out, Hd3.out⟩
        case measure => simp [intOf]; omega
    · obtain rfl : f = 0 := by omega
      have HS1 : Hid (s = R) := Lib.hid (by have := HS.out; rwa [mostFrom] at this)
      go_wp2
      go_ret
      exact ⟨ret_int (by rw [HS1.out]), Hd.out⟩

def mostF (ss : List ByteArray) (k : Int) : Int := if (patsOk ss && inR k 0 (((2 ^ ss.length : Nat) : Int) - 1)) = true then ((mostN ss k.toNat : Nat) : Int) else -1
theorem most_le {ss : List ByteArray} {p0 : ByteArray} (hp : Pats ss p0) (x : Nat) : mostN ss x ≤ 360 := by
  have h1 := mostFrom_le ss x (ss.headD ByteArray.empty).size 0 0
  have h2 := hp.ten
  have h3 := hp.few
  rw [hp.head] at h1
  have h4 : ss.length * p0.size ≤ 10 * 36 := Nat.mul_le_mul h2 h3
  rw [mostN, hp.head]; omega
theorem onesG_c (f x : Nat) (w : World) (hx : x < 2 ^ f) (hf : f ≤ 10) : Calls Tryz.prog 43 #[.int .u64 x] w (Quiet w (.int .i64 (((bitsF f 0 x).length : Nat) : Int))) := by
  rw [← bitsF_more f 10 0 x hx hf]
  exact onesCount_c x w (Nat.lt_of_lt_of_le hx (Nat.le_trans (Nat.pow_le_pow_right (by decide) hf) (by decide)))
/-- The first number from s on that fits, of f numbers; 0 if there is none. -/
def firstIn (P : Nat → Bool) : Nat → Nat → Nat
  | 0, _ => 0
  | f + 1, s => if P s = true then s else firstIn P f (s + 1)
def lacks (ss : List ByteArray) (x : Nat) : Bool := decide (2 ≤ card ss x ∧ mostN ss x < card ss x * (card ss x - 1) / 2)
def lackF (ss : List ByteArray) : Nat := if patsOk ss = true then firstIn (lacks ss) (2 ^ ss.length - 1) 1 else 0

set_option maxHeartbeats 2000000 in
theorem IMostMeetings_c (A : Option Addr) (c : Nat) (ss : List ByteArray) (k : Int) (w : World) (ha : Strs w A ss) (hm : ss.length ≤ 1048576) :
    Calls Tryz.prog 27 #[.slice A ss.length c, .int .i64 k] w (Gives w (.int .i64 (mostF ss k))) := by
  generalize hR : mostF ss k = R
  have HR := Lib.hid hR
  clear hR
  have Ha := Lib.hid ha
  clear ha
  cases h1 : patsOk ss
  · have HS : Hid (-1 = R) := Lib.hid (by rw [← HR.out]; simp [mostF, h1])
    have H1 := Lib.hid h1
    clear h1
    go_enter Tryz.func27, Tryz.ntmps27
    go_wp2_with fail
    refine (gives_v (iPatternsOk_c _ _ _ _ Ha.out hm) (congrArg Value.bool H1.out)).mono ?_
    rintro e w1 ⟨rfl, hb1⟩
    go_wp2
    go_ret
    exact ⟨ret_int HS.out, hb1⟩
  · obtain ⟨p0, hp⟩ := pats_of h1
    have h10 := hp.ten
    obtain ⟨N, hN⟩ : ∃ N, 2 ^ ss.length = N := ⟨_, rfl⟩
    have hN64 : N ≤ 1024 := by rw [← hN]; exact Nat.le_trans (Nat.pow_le_pow_right (by decide) h10) (by decide)
    have e0 : wrap64 ((2 : Int) ^ ss.length) = (N : Int) := pow_wrap hN (by omega)
    have e1 : IntKind.i64.wrap ((N : Int) - 1) = (N : Int) - 1 := IntWalk.i64_in _ (by omega)
    cases h2 : inR k 0 ((N : Int) - 1)
    · have HS : Hid (-1 = R) := Lib.hid (by rw [← HR.out, mostF, hN, h2]; simp)
      have H1 := Lib.hid h1
      have H2 := Lib.hid h2
      have Hp := Lib.hid hp
      have HN := Lib.hid hN
      clear h1 h2 hp hN
      go_enter Tryz.func27, Tryz.ntmps27
      go_wp2_with fail
      refine (gives_v (iPatternsOk_c _ _ _ _ Ha.out hm) (congrArg Value.bool H1.out)).mono ?_
      rintro e w1 ⟨rfl, hb1⟩
      have Hb1 := Lib.hid hb1
      clear hb1
      go_wp2_with fail
      refine (calls_v (within_c _ _ _ _) (congrArg Value.bool H2.out)).mono ?_
      rintro e w2 ⟨rfl, hq2⟩
      go_wp2
      go_ret
      exact ⟨ret_int HS.out, below_dr Hb1.out hq2⟩
    · obtain ⟨k1, k2⟩ := inR_true h2
      obtain ⟨x, rfl⟩ := Int.eq_ofNat_of_zero_le k1
      have HS : Hid (((mostN ss x : Nat) : Int) = R) := Lib.hid (by rw [← HR.out, mostF, hN, h1, h2]; simp)
      have hx : x < 2 ^ ss.length := by rw [hN]; omega
      have H1 := Lib.hid h1
      have H2 := Lib.hid h2
      have Hp := Lib.hid hp
      have HN := Lib.hid hN
      have Hx := Lib.hid hx
      clear h1 h2 hp hN hx
      go_enter Tryz.func27, Tryz.ntmps27
      go_wp2_with fail
      refine (gives_v (iPatternsOk_c _ _ _ _ Ha.out hm) (congrArg Value.bool H1.out)).mono ?_
      rintro e w1 ⟨rfl, hb1⟩
      have Hb1 := Lib.hid hb1
      clear hb1
      go_wp2_with fail
      refine (calls_v (within_c _ _ _ _) (congrArg Value.bool H2.out)).mono ?_
      rintro e w2 ⟨rfl, hq2⟩
      have Hb2 := Lib.hid (below_dr Hb1.out hq2)
      clear hq2
      go_wp2_with fail
      refine (mostMeetings_c _ _ _ p0 _ _ (Ha.out.keep (keep_of_below Hb2.out)) Hp.out Hx.out).mono ?_
      rintro e w3 ⟨rfl, hb3⟩
      go_wp2
      go_ret
      exact ⟨ret_int HS.out, Hb2.out.trans (hb3.mono Hb2.out.size)⟩

set_option maxHeartbeats 2000000 in
theorem ILackingSet_c (A : Option Addr) (c : Nat) (ss : List ByteArray) (w : World) (ha : Strs w A ss) (hm : ss.length ≤ 1048576) :
    Calls Tryz.prog 11 #[.slice A ss.length c] w (Gives w (.int .i64 ((lackF ss : Nat) : Int))) := by
  generalize hR : lackF ss = R
  have HR := Lib.hid hR
  clear hR
  have Ha := Lib.hid ha
  clear ha
  cases h1 : patsOk ss
  · have HS : Hid (0 = R) := Lib.hid (by rw [← HR.out]; simp [lackF, h1])
    have H1 := Lib.hid h1
    clear h1
    go_enter Tryz.func11, Tryz.ntmps11
    go_wp2_with fail
    refine (gives_v (iPatternsOk_c _ _ _ _ Ha.out hm) (congrArg Value.bool H1.out)).mono ?_
    rintro e w1 ⟨rfl, hb1⟩
    go_wp2
    go_ret
    exact ⟨ret_int (by rw [← HS.out]; rfl), hb1⟩
  · obtain ⟨p0, hp⟩ := pats_of h1
    have h10 := hp.ten
    obtain ⟨N, hN⟩ : ∃ N, 2 ^ ss.length = N := ⟨_, rfl⟩
    have hN64 : N ≤ 1024 := by rw [← hN]; exact Nat.le_trans (Nat.pow_le_pow_right (by decide) h10) (by decide)
    have hN1 : 1 ≤ N := by rw [← hN]; exact Nat.one_le_two_pow
    have e0 : wrap64 ((2 : Int) ^ ss.length) = (N : Int) := pow_wrap hN (by omega)
    have HS : Hid (firstIn (lacks ss) (N - 1) 1 = R) := Lib.hid (by rw [← HR.out, lackF, if_pos h1, hN])
    have H1 := Lib.hid h1
    have Hp := Lib.hid hp
    have HN := Lib.hid hN
    clear h1 hp hN
    go_enter Tryz.func11, Tryz.ntmps11
    go_wp2_with fail
    refine (gives_v (iPatternsOk_c _ _ _ _ Ha.out hm) (congrArg Value.bool H1.out)).mono ?_
    rintro e w1 ⟨rfl, hb1⟩
    have Hb1 := Lib.hid hb1
    clear hb1
    go_wp2
    go_loopw [3] (fun i wr => ∃ x f : Nat, 1 ≤ x ∧ x + f = N ∧ i = .int .i64 x ∧ firstIn (lacks ss) f x = R ∧ Below w.heap.size w wr) (fun i _ => N - (intOf i).toNat)
    case atStart => exact ⟨1, N - 1, Nat.le_refl _, by omega, rfl, HS.out, Hb1.out⟩
    case round =>
      obtain ⟨x, f, hx1, hxf, rfl, hS, hd⟩ := hrel
      have HS := Lib.hid hS
      have Hd := Lib.hid hd
      clear hS hd
      by_cases hlt : x < N
      · obtain ⟨f, rfl⟩ : ∃ f', f = f' + 1 := ⟨f - 1, by omega⟩
        obtain ⟨cd, hcd⟩ : ∃ cd, card ss x = cd := ⟨_, rfl⟩
        have hcd10 : cd ≤ 10 := by rw [← hcd]; exact Nat.le_trans (card_le ss x) h10
        obtain ⟨mn, hmn⟩ : ∃ mn, mostN ss x = mn := ⟨_, rfl⟩
        have hm360 : mn ≤ 360 := by rw [← hmn]; exact most_le Hp.out x
        have hx2 : x < 2 ^ ss.length := by rw [HN.out]; exact hlt
        have hoc := fun W => calls_v (onesG_c ss.length x W hx2 h10) (congrArg (fun x : Nat => Value.int .i64 x) (show (bitsF ss.length 0 x).length = cd from hcd))
        have wx : IntKind.u64.wrap (x : Int) = (x : Int) := u64_in _ (by omega)
        have HS1 : Hid ((if 2 ≤ cd ∧ mn < cd * (cd - 1) / 2 then x else firstIn (lacks ss) f (x + 1)) = R) := Lib.hid (by
          have := HS.out
          rw [firstIn, lacks, hcd, hmn] at this
          simpa using this)
        have Hcd := Lib.hid hcd
        have Hmn := Lib.hid hmn
        have Hx2 := Lib.hid hx2
        have Hoc := Lib.hid hoc
        clear hcd hmn hx2 hoc
        by_cases hc2 : 2 ≤ cd
        · obtain ⟨pr, hpr⟩ : ∃ pr, cd * (cd - 1) = pr := ⟨_, rfl⟩
          have hpr100 : pr ≤ 100 := by rw [← hpr]; exact Nat.le_trans (Nat.mul_le_mul hcd10 (by omega : cd - 1 ≤ 10)) (by decide)
          have w1 : IntKind.i64.wrap ((cd : Int) - 1) = ((cd - 1 : Nat) : Int) := by rw [IntWalk.i64_in _ (by omega)]; omega
          have w2 : IntKind.i64.wrap ((cd : Int) * ((cd - 1 : Nat) : Int)) = (pr : Int) := by
            rw [← Int.natCast_mul, hpr]; exact IntWalk.i64_in _ (by omega)
          obtain ⟨c1, hc1⟩ : ∃ c1, cd - 1 = c1 := ⟨_, rfl⟩
          rw [hc1] at w1 w2
          have hc1' : c1 ≤ 10 := by omega
          have w3 : (pr : Int).tdiv 2 = ((pr / 2 : Nat) : Int) := by rw [Int.tdiv_eq_ediv_of_nonneg (by omega)]; omega
          obtain ⟨hf, hhf⟩ : ∃ hf, pr / 2 = hf := ⟨_, rfl⟩
          rw [hhf] at w3
          have hf50 : hf ≤ 50 := by omega
          have hc2' : (2 : Int) ≤ (cd : Int) := by omega
          have HS2 : Hid ((if mn < hf then x else firstIn (lacks ss) f (x + 1)) = R) := Lib.hid (by
            have := HS1.out
            rw [hpr, hhf] at this
            by_cases hmh : mn < hf
            · rw [if_pos hmh]; rwa [if_pos ⟨hc2, hmh⟩] at this
            · rw [if_neg hmh]; rwa [if_neg (fun h => hmh h.2)] at this)
          have Hpr := Lib.hid hpr
          have Hc1 := Lib.hid hc1
          have Hhf := Lib.hid hhf
          clear hpr hc1 hhf
          by_cases hmh : mn < hf
          · have HS3 : Hid (x = R) := Lib.hid (by have := HS2.out; rwa [if_pos hmh] at this)
            go_wp2_with fail
            refine (Hoc.out _).mono ?_
            rintro e w2' ⟨rfl, hq2⟩
            have Hd2 := Lib.hid (below_dr Hd.out hq2)
            clear hq2
            have hmm := gives_v (mostMeetings_c A c ss p0 x w2' (Ha.out.keep (keep_of_below Hd2.out)) Hp.out Hx2.out) (congrArg (fun x : Nat => Value.int .i64 x) Hmn.out)
            have Hmm := Lib.hid hmm
            clear hmm
            go_wp2_with fail
            refine (Hmm.out).mono ?_
            rintro e w3' ⟨rfl, hb3⟩
            go_wp2
            go_ret
            exact ⟨ret_int (by rw [HS3.out]), Hd2.out.trans (hb3.mono Hd2.out.size)⟩
          · have HS3 : Hid (firstIn (lacks ss) f (x + 1) = R) := Lib.hid (by have := HS2.out; rwa [if_neg hmh] at this)
            go_wp2_with fail
            refine (Hoc.out _).mono ?_
            rintro e w2' ⟨rfl, hq2⟩
            have Hd2 := Lib.hid (below_dr Hd.out hq2)
            clear hq2
            have hmm := gives_v (mostMeetings_c A c ss p0 x w2' (Ha.out.keep (keep_of_below Hd2.out)) Hp.out Hx2.out) (congrArg (fun x : Nat => Value.int .i64 x) Hmn.out)
            have Hmm := Lib.hid hmm
            clear hmm
            go_wp2_with fail
            refine (Hmm.out).mono ?_
            rintro e w3' ⟨rfl, hb3⟩
            have Hd3 := Lib.hid (Hd2.out.trans (hb3.mono Hd2.out.size))
            clear hb3
            go_wp2
            go_roundw
            case rel => exact ⟨x + 1, f, by omega, by omega, by go_num, HS3.out, Hd3.out⟩
            case measure => simp [intOf]; omega
        · have HS3 : Hid (firstIn (lacks ss) f (x + 1) = R) := Lib.hid (by have := HS1.out; rwa [if_neg (fun h => hc2 h.1)] at this)
          have hc2' : decide ((2 : Int) ≤ (cd : Int)) = false := by rw [decide_eq_false_iff_not]; omega
          have hc2'' : decide ((cd : Int) ≥ 2) = false := by rw [decide_eq_false_iff_not]; omega
          go_wp2_with fail
          refine (Hoc.out _).mono ?_
          rintro e w2' ⟨rfl, hq2⟩
          have Hd2 := Lib.hid (below_dr Hd.out hq2)
          clear hq2
          go_wp2
          go_roundw
          case rel => exact ⟨x + 1, f, by omega, by omega, by go_num, HS3.out, Hd2.out⟩
          case measure => simp [intOf]; omega
      · obtain rfl : f = 0 := by omega
        have HS1 : Hid (0 = R) := Lib.hid (by have := HS.out; rwa [firstIn] at this)
        go_wp2
        go_ret
        exact ⟨ret_int (by rw [← HS1.out]; rfl), Hd.out⟩

end Go.Proofs.YtfkccgblgjpalaaGreat
