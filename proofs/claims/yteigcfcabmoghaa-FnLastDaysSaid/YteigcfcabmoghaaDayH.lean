/- Contracts: in how many endings of a last day a club is first alone; who is decided (program and reference). -/
import Derived.Test.YteigcfcabmoghaaDayG
import Derived.Test.YteigcfcabmoghaaIdx
import Derived.Test.YteigcfcabmoghaaCap
namespace Go.Proofs.Yteigcfcabmoghaa
open Go.RowKit

def isAlone (pts : List Int) (games : List (List Int)) (c : Nat) (e : List Int) : Bool :=
  decide (moreOf ((afterD pts games e).getD c 0) 0 (afterD pts games e) + sameOf ((afterD pts games e).getD c 0) c 0 0 (afterD pts games e) = 0)
def aloneF (pts : List Int) (games : List (List Int)) (k : Int) : Int := if ofDay pts games k = true then (((endF games.length).countP (isAlone pts games k.toNat) : Nat) : Int) else -1
theorem moreOf_zero (b : Int) : ∀ (r : List Int) (s : Nat), moreOf b s r = 0 ↔ s = 0 ∧ ∀ v ∈ r, v ≤ b
  | [], s => by simp [moreOf]
  | v :: r, s => by
    by_cases h : b < v
    · rw [moreOf, if_pos h, moreOf_zero b r]
      simp only [List.mem_cons, forall_eq_or_imp]
      omega
    · rw [moreOf, if_neg h, moreOf_zero b r]
      simp only [List.mem_cons, forall_eq_or_imp]
      have : v ≤ b := by omega
      simp [this]
theorem sameOf_zero (b : Int) (c : Nat) : ∀ (r : List Int) (s k : Nat), sameOf b c s k r = 0 ↔ s = 0 ∧ ∀ j v, r[j]? = some v → v = b → k + j = c
  | [], s, k => by simp [sameOf]
  | u :: r, s, k => by
    have hsplit : (∀ j v, (u :: r)[j]? = some v → v = b → k + j = c) ↔ (u = b → k = c) ∧ ∀ j v, r[j]? = some v → v = b → k + 1 + j = c := by
      constructor
      · intro h
        exact ⟨fun hu => by have := h 0 u rfl hu; omega, fun j v hj hv => by have := h (j + 1) v (by simpa using hj) hv; omega⟩
      · rintro ⟨h1, h2⟩ j v hj hv
        cases j with
        | zero => simp at hj; subst hj; have := h1 hv; omega
        | succ j => have := h2 j v (by simpa using hj) hv; omega
    rw [hsplit]
    by_cases h : u = b ∧ k ≠ c
    · rw [sameOf, if_pos h, sameOf_zero b c r]
      constructor
      · rintro ⟨h1, _⟩; omega
      · rintro ⟨_, h1, _⟩; exact absurd (h1 h.1) h.2
    · rw [sameOf, if_neg h, sameOf_zero b c r]
      constructor
      · rintro ⟨h1, h2⟩; exact ⟨h1, fun hu => Classical.byContradiction fun hk => h ⟨hu, hk⟩, h2⟩
      · rintro ⟨h1, _, h2⟩; exact ⟨h1, h2⟩
theorem idx_first (b : Int) : ∀ (r : List Int) (k p : Nat), r[p]? = some b → (idxFrom (fun x => decide (b = x)) k r = ((k + p : Nat) : Int) ↔ ∀ j v, j < p → r[j]? = some v → v ≠ b)
  | [], k, p, h => by simp at h
  | u :: r, k, p, h => by
    rw [idxFrom]
    by_cases hu : b = u
    · rw [decide_eq_true hu]
      simp only [if_true]
      constructor
      · intro h1 j v hj; omega
      · intro h1
        cases p with
        | zero => simp
        | succ p => exact absurd hu.symm (h1 0 u (by omega) rfl)
    · rw [decide_eq_false hu]
      simp only [Bool.false_eq_true, if_false]
      cases p with
      | zero => simp at h; exact absurd h.symm hu
      | succ p =>
        rw [show k + (p + 1) = k + 1 + p from by omega, idx_first b r (k + 1) p (by simpa using h)]
        constructor
        · intro h1 j v hj hv
          cases j with
          | zero => simp at hv; subst hv; exact fun e => hu e.symm
          | succ j => exact h1 j v (by omega) (by simpa using hv)
        · intro h1 j v hj hv; exact h1 (j + 1) v (by omega) (by simpa using hv)
/-- First alone, by the greatest number, the first index and what lies behind. -/
theorem alone_iff {x : Int} {xs : List Int} {p : Nat} {b : Int} (h : (x :: xs)[p]? = some b) :
    (moreOf b 0 (x :: xs) + sameOf b p 0 0 (x :: xs) = 0) ↔ (maxOf x xs = b ∧ idxFrom (fun y => decide (b = y)) 0 (x :: xs) = (p : Int) ∧ ¬ b ∈ (x :: xs).drop (p + 1)) := by
  have hi := idx_first b (x :: xs) 0 p h
  rw [Nat.zero_add] at hi
  rw [hi]
  have hb : b ∈ x :: xs := List.mem_of_getElem? h
  have hmax : maxOf x xs = b ↔ ∀ v ∈ x :: xs, v ≤ b := by
    constructor
    · intro e v hv
      have := (maxOf_le xs x b).1 (by omega)
      rcases List.mem_cons.1 hv with rfl | hv
      · exact this.1
      · exact this.2 v hv
    · intro hall
      have h1 := (maxOf_le xs x b).2 ⟨hall x (by simp), fun v hv => hall v (by simp [hv])⟩
      have h2 := (maxOf_le xs x (maxOf x xs)).1 (Int.le_refl _)
      rcases List.mem_cons.1 hb with rfl | hb
      · omega
      · have := h2.2 b hb; omega
  rw [hmax]
  have h0 : (moreOf b 0 (x :: xs) + sameOf b p 0 0 (x :: xs) = 0) ↔ (moreOf b 0 (x :: xs) = 0 ∧ sameOf b p 0 0 (x :: xs) = 0) := by omega
  rw [h0, moreOf_zero, sameOf_zero]
  constructor
  · rintro ⟨⟨_, h1⟩, _, h2⟩
    refine ⟨h1, fun j v hj hv e => ?_, fun hm => ?_⟩
    · have := h2 j v hv e; omega
    · obtain ⟨i, hi, e⟩ := List.mem_iff_getElem.1 hm
      have h3 : (x :: xs)[p + 1 + i]? = some b := by
        rw [← List.getElem?_drop, List.getElem?_eq_getElem hi, e]
      have := h2 _ b h3 rfl; omega
  · rintro ⟨h1, h2, h3⟩
    refine ⟨⟨rfl, h1⟩, rfl, fun j v hv e => ?_⟩
    rw [Nat.zero_add]
    rcases Nat.lt_trichotomy j p with hj | hj | hj
    · exact absurd e (h2 j v hj hv)
    · exact hj
    · refine absurd ?_ h3
      have : ((x :: xs).drop (p + 1))[j - (p + 1)]? = some b := by
        rw [List.getElem?_drop, show p + 1 + (j - (p + 1)) = j from by omega, hv, e]
      exact List.mem_of_getElem? this

set_option maxHeartbeats 4000000 in
theorem sCountAlone_c (A B : Option Addr) (c d : Nat) (points : List Int) (games : List (List Int)) (k : Int) (w : World) (ha : Ints w A points) (hb : Rows w B games) (hm : points.length ≤ 1048576) :
    Calls Try.prog 31 #[.slice A points.length c, .slice B games.length d, .int .i64 k] w (Gives w (.int .i64 (aloneF points games k))) := by
  generalize hR : aloneF points games k = R
  have HR := Lib.hid hR
  clear hR
  have Ha := Lib.hid ha
  have Hb := Lib.hid hb
  clear ha hb
  cases h1 : ofDay points games k
  · have HS : Hid (-1 = R) := Lib.hid (by rw [← HR.out]; simp [aloneF, h1])
    have H1 := Lib.hid h1
    clear h1
    go_enter Try.func31, Try.ntmps31
    go_wp2_with fail
    refine (gives_v (l15Ok_c _ _ _ _ _ _ _ _ Ha.out Hb.out hm) (congrArg Value.bool H1.out)).mono ?_
    rintro e w1 ⟨rfl, hb1⟩
    go_wp2
    go_ret
    exact ⟨ret_int HS.out, hb1⟩
  · obtain ⟨hdok, p, rfl, hp⟩ := ofDay_day h1
    obtain ⟨hday, hpt⟩ := day_of hdok
    have HS : Hid (((0 + ((endF games.length).drop 0).countP (isAlone points games p) : Nat) : Int) = R) := Lib.hid (by rw [← HR.out, aloneF, if_pos h1]; simp)
    have hfew := hday.few
    have hn8 := hday.eight
    obtain ⟨N, hN⟩ : ∃ N, 3 ^ games.length = N := ⟨_, rfl⟩
    have hN81 : N ≤ 81 := by rw [← hN]; exact Nat.le_trans (Nat.pow_le_pow_right (by decide) hfew) (by decide)
    have Hcnt := Lib.hid (fun W => calls_v (l15Count_c games.length W hfew) (congrArg (fun x : Nat => Value.int .i64 x) hN))
    have H1 := Lib.hid h1
    have Hday := Lib.hid hday
    have Hpt := Lib.hid hpt
    have Hdok := Lib.hid hdok
    have HN := Lib.hid hN
    clear h1 hday hpt hdok hN
    go_enter Try.func31, Try.ntmps31
    go_wp2_with fail
    refine (gives_v (l15Ok_c _ _ _ _ _ _ _ _ Ha.out Hb.out hm) (congrArg Value.bool H1.out)).mono ?_
    rintro e w1 ⟨rfl, hb1⟩
    have Hb1 := Lib.hid hb1
    clear hb1
    go_wp2
    go_loopw [8, 7] (fun i q wr => ∃ (j s : Nat), j ≤ N ∧ s ≤ j ∧ i = .int .i64 j ∧ q = .int .i64 s ∧ ((s + ((endF games.length).drop j).countP (isAlone points games p) : Nat) : Int) = R ∧ Below w.heap.size w wr) (fun i _ _ => N - (intOf i).toNat)
    case atStart => exact ⟨0, 0, Nat.zero_le _, Nat.le_refl _, rfl, rfl, HS.out, Hb1.out⟩
    case round =>
      obtain ⟨j, s, hj, hs, rfl, rfl, hS, hdn⟩ := hrel
      have HS := Lib.hid hS
      have Hdn := Lib.hid hdn
      clear hS hdn
      by_cases hlt : j < N
      · have hx : (endF games.length)[j]? = some (digits games.length j) := endF_at _ _ (by rw [HN.out]; exact hlt)
        obtain ⟨e, hee⟩ : ∃ e, digits games.length j = e := ⟨_, rfl⟩
        rw [hee] at hx
        obtain ⟨hel, hen⟩ := endF_row _ e (List.mem_of_getElem? hx)
        obtain ⟨D, hD⟩ : ∃ D, afterD points games e = D := ⟨_, rfl⟩
        have hDl : D.length = points.length := by rw [← hD, afterD_len]
        obtain ⟨b, hbk⟩ := some_of (l := D) (k := p) (by rw [hDl]; exact hp)
        obtain ⟨m, hmm⟩ : ∃ m, moreOf b 0 D = m := ⟨_, rfl⟩
        obtain ⟨sm, hsm⟩ : ∃ sm, sameOf b p 0 0 D = sm := ⟨_, rfl⟩
        have hm8 : m ≤ 8 := by rw [← hmm]; have := (moreOf_le b D 0).2; omega
        have hsm8 : sm ≤ 8 := by rw [← hsm]; have := (sameOf_le b p D 0 0).2; omega
        have hal : isAlone points games p e = decide (m + sm = 0) := by rw [isAlone, hD, show D.getD p 0 = b from by simp [hbk], hmm, hsm]
        have HS1 : Hid ((((if m + sm = 0 then s + 1 else s) + ((endF games.length).drop (j + 1)).countP (isAlone points games p) : Nat) : Int) = R) := Lib.hid (by
          have := HS.out
          rw [drop_of hx, List.countP_cons, hal] at this
          rw [← this]
          by_cases h0 : m + sm = 0
          · simp only [h0, if_true, decide_true]; omega
          · simp only [h0, if_false, decide_false, Bool.false_eq_true]; omega)
        have Hx := Lib.hid hx
        have Hel := Lib.hid hel
        have Hen := Lib.hid hen
        have HD := Lib.hid hD
        have Hbk := Lib.hid hbk
        have Hmm := Lib.hid hmm
        have HDl := Lib.hid hDl
        have Hee := Lib.hid hee
        have Hal := Lib.hid hal
        have Hsm := Lib.hid hsm
        clear hx hel hen hD hbk hmm hDl hee hal hsm
        go_wp2_with fail
        refine (Hcnt.out _).mono ?_
        rintro e' w3 ⟨rfl, hq3⟩
        have Hdn3 := Lib.hid (below_dr Hdn.out hq3)
        clear hq3
        go_wp2_with fail
        refine (l15Ending_c games.length j _ hfew (by omega)).mono ?_
        rintro e' w4 ⟨C4, c4, e4, ho4, hb4⟩
        rw [Hee.out, Hel.out] at e4
        rw [Hee.out] at ho4
        subst e4
        have Hdn4 := Lib.hid (Hdn3.out.trans (hb4.mono Hdn3.out.size))
        have Ho4 := Lib.hid ho4
        clear ho4 hb4
        have hac := l15After_c A B C4 c d c4 points games e w4 (Ha.out.keep (keep_of_below Hdn4.out)) (Hb.out.keep (keep_of_below Hdn4.out)) Ho4.out.ints Hpt.out Hday.out Hel.out Hen.out
        rw [HD.out, Hel.out] at hac
        have Hac := Lib.hid hac
        clear hac
        go_wp2_with fail
        refine Hac.out.mono ?_
        rintro e' w5 ⟨C5, c5, rfl, ho5, hb5⟩
        have Hi5 := Lib.hid ho5.ints
        have Hdn5 := Lib.hid (Hdn4.out.trans (hb5.mono Hdn4.out.size))
        clear ho5 hb5
        have hab := l15Above_c C5 c5 D p b w5 Hi5.out Hbk.out (by rw [HDl.out]; exact hm)
        rw [Hmm.out, Hsm.out] at hab
        have wms : IntKind.i64.wrap ((m : Int) + (sm : Int)) = (m : Int) + (sm : Int) := IntWalk.i64_in _ (by omega)
        have Hab := Lib.hid hab
        clear hab
        by_cases hm0 : m + sm = 0
        · have HS2 : Hid (((s + 1 + ((endF games.length).drop (j + 1)).countP (isAlone points games p) : Nat) : Int) = R) := Lib.hid (by have := HS1.out; rwa [if_pos hm0] at this)
          have hm0' : ((m : Int) + (sm : Int) == 0) = true := by rw [beq_iff_eq]; omega
          have Hm0 := Lib.hid hm0
          clear hm0
          go_wp2_with fail
          refine Hab.out.mono ?_
          rintro e' w6 ⟨rfl, hq6⟩
          have Hdn6 := Lib.hid (below_dr Hdn5.out hq6)
          clear hq6
          go_wp2
          go_roundw
          case rel => exact ⟨j + 1, s + 1, by omega, by omega, by go_num, by go_num, HS2.out, Hdn6.out⟩
          case measure => simp [intOf]; omega
        · have HS2 : Hid (((s + ((endF games.length).drop (j + 1)).countP (isAlone points games p) : Nat) : Int) = R) := Lib.hid (by have := HS1.out; rwa [if_neg hm0] at this)
          have hm0' : ((m : Int) + (sm : Int) == 0) = false := by rw [beq_eq_false_iff_ne]; omega
          have Hm0 := Lib.hid hm0
          clear hm0
          go_wp2_with fail
          refine Hab.out.mono ?_
          rintro e' w6 ⟨rfl, hq6⟩
          have Hdn6 := Lib.hid (below_dr Hdn5.out hq6)
          clear hq6
          go_wp2
          go_roundw
          case rel => exact ⟨j + 1, s, by omega, by omega, by go_num, by go_num, HS2.out, Hdn6.out⟩
          case measure => simp [intOf]; omega
      · obtain rfl : j = N := by omega
        have HS2 : Hid ((s : Int) = R) := Lib.hid (by have := HS.out; rwa [List.drop_of_length_le (by rw [endF_length, HN.out]; exact Nat.le_refl _), List.countP_nil, Nat.add_zero] at this)
        go_wp2_with fail
        refine (Hcnt.out _).mono ?_
        rintro e' w3 ⟨rfl, hq3⟩
        go_wp2
        go_ret
        exact ⟨ret_int HS2.out, below_dr Hdn.out hq3⟩

theorem ints_behind {w : World} {g q c : Nat} {xs : List Int} (h : Ints w (some ⟨g, 0, none⟩) xs) (hc : xs.length ≤ c) :
    Ints w (if c = q then some ⟨g, 0, none⟩ else some ⟨g, q, none⟩) (xs.drop q) := by
  intro k u hk
  rw [List.getElem?_drop] at hk
  have := lt_of hk
  rw [if_neg (by omega)]
  obtain ⟨ad, e, hcell⟩ := h _ u hk
  injection e with e
  subst e
  refine ⟨_, rfl, ?_⟩
  rw [addr_zero_add] at hcell
  have e2 : (⟨g, q, none⟩ : Addr).add k = ⟨g, q + k, none⟩ := by unfold Addr.add; split <;> simp_all
  rw [e2]; exact hcell
set_option maxHeartbeats 4000000 in
theorem iCountAlone_c (A B : Option Addr) (c d : Nat) (points : List Int) (games : List (List Int)) (k : Int) (w : World) (ha : Ints w A points) (hb : Rows w B games) (hm : points.length ≤ 1048576) :
    Calls Try.prog 32 #[.slice A points.length c, .slice B games.length d, .int .i64 k] w (Gives w (.int .i64 (aloneF points games k))) := by
  generalize hR : aloneF points games k = R
  have HR := Lib.hid hR
  clear hR
  have Ha := Lib.hid ha
  have Hb := Lib.hid hb
  clear ha hb
  cases h1 : ofDay points games k
  · have HS : Hid (-1 = R) := Lib.hid (by rw [← HR.out]; simp [aloneF, h1])
    have H1 := Lib.hid h1
    clear h1
    go_enter Try.func32, Try.ntmps32
    go_wp2_with fail
    refine (gives_v (isOfDay_c _ _ _ _ _ _ _ _ Ha.out Hb.out hm) (congrArg Value.bool H1.out)).mono ?_
    rintro e w1 ⟨rfl, hb1⟩
    go_wp2
    go_ret
    exact ⟨ret_int HS.out, hb1⟩
  · obtain ⟨hdok, p, rfl, hp⟩ := ofDay_day h1
    obtain ⟨hday, hpt⟩ := day_of hdok
    have HS : Hid (((0 + ((endF games.length).drop 0).countP (isAlone points games p) : Nat) : Int) = R) := Lib.hid (by rw [← HR.out, aloneF, if_pos h1]; simp)
    have hfew := hday.few
    have hn8 := hday.eight
    have hn2 := hday.two
    obtain ⟨N, hN⟩ : ∃ N, (endF games.length).length = N := ⟨_, rfl⟩
    have hN81 : N ≤ 81 := by rw [← hN, endF_length]; exact Nat.le_trans (Nat.pow_le_pow_right (by decide) hfew) (by decide)
    have H1 := Lib.hid h1
    have Hday := Lib.hid hday
    have Hpt := Lib.hid hpt
    have Hdok := Lib.hid hdok
    clear h1 hday hpt hdok
    go_enter Try.func32, Try.ntmps32
    go_wp2_with fail
    refine (gives_v (isOfDay_c _ _ _ _ _ _ _ _ Ha.out Hb.out hm) (congrArg Value.bool H1.out)).mono ?_
    rintro e w1 ⟨rfl, hb1⟩
    have Hb1 := Lib.hid hb1
    clear hb1
    go_wp2_with fail
    refine (endingsOf_c _ _ _ _ hfew).mono ?_
    rintro e w3 ⟨C, cc, rfl, he3, hb3⟩
    rw [hN]
    have Hb3 := Lib.hid (Hb1.out.trans (hb3.mono Hb1.out.size))
    have He3 := Lib.hid he3
    have HN := Lib.hid hN
    clear he3 hN
    clear hb3
    go_wp2
    go_loopw [19, 7] (fun i q wr => ∃ (j s : Nat), j ≤ N ∧ s ≤ j ∧ i = .int .i64 j ∧ q = .int .i64 s ∧ ((s + ((endF games.length).drop j).countP (isAlone points games p) : Nat) : Int) = R ∧
      Own2 3 22 w1.heap.size w3.heap.size wr C cc (endF games.length) ∧ Below w.heap.size w wr ∧ w3.heap.size ≤ wr.heap.size) (fun i _ _ => N - (intOf i).toNat)
    case atStart => exact ⟨0, 0, Nat.zero_le _, Nat.le_refl _, rfl, rfl, HS.out, He3.out, Hb3.out, Nat.le_refl _⟩
    case round =>
      obtain ⟨j, s, hj, hs, rfl, rfl, hS, he, hdn, hzr⟩ := hrel
      have HS := Lib.hid hS
      have He := Lib.hid he
      have Hdn := Lib.hid hdn
      clear hS he hdn
      by_cases hlt : j < N
      · obtain ⟨e, hx⟩ := some_of (l := endF games.length) (k := j) (by rw [HN.out]; exact hlt)
        obtain ⟨bd, b', c', rfl, hca, hio⟩ := He.out.rowOwn hx
        obtain ⟨hel, hen⟩ := endF_row _ e (List.mem_of_getElem? hx)
        obtain ⟨D, hD⟩ : ∃ D, afterD points games e = D := ⟨_, rfl⟩
        have hDl : D.length = points.length := by rw [← hD, afterD_len]
        obtain ⟨b, hbk⟩ := some_of (l := D) (k := p) (by rw [hDl]; exact hp)
        obtain ⟨x, xs, hxs⟩ : ∃ x xs, D = x :: xs := by
          cases D with
          | nil => simp at hDl; omega
          | cons x xs => exact ⟨x, xs, rfl⟩
        obtain ⟨M, hM⟩ : ∃ M, maxOf x xs = M := ⟨_, rfl⟩
        obtain ⟨I, hI⟩ : ∃ I, idxFrom (fun y => decide (b = y)) 0 D = I := ⟨_, rfl⟩
        obtain ⟨cn, hcn⟩ : ∃ cn, decide (b ∈ D.drop (p + 1)) = cn := ⟨_, rfl⟩
        have hal : isAlone points games p e = (decide (M = b) && (decide (I = (p : Int)) && !cn)) := by
          rw [isAlone, hD, show D.getD p 0 = b from by simp [hbk], ← hcn, ← hI, ← hM]
          have := alone_iff (by rw [← hxs]; exact hbk : (x :: xs)[p]? = some b)
          rw [← hxs] at this
          rw [Bool.eq_iff_iff]
          simp only [decide_eq_true_eq, Bool.and_eq_true, Bool.not_eq_true', decide_eq_false_iff_not]
          exact this
        have HS1 : Hid ((((if (decide (M = b) && (decide (I = (p : Int)) && !cn)) = true then s + 1 else s) + ((endF games.length).drop (j + 1)).countP (isAlone points games p) : Nat) : Int) = R) := Lib.hid (by
          have := HS.out
          rw [drop_of hx, List.countP_cons, hal] at this
          rw [← this]
          by_cases h0 : (decide (M = b) && (decide (I = (p : Int)) && !cn)) = true
          · rw [if_pos h0, if_pos h0]; omega
          · rw [if_neg h0, if_neg h0]; omega)
        have hac := afterDay_c A B b' c d c' points games e wr (Ha.out.keep (keep_of_below Hdn.out)) (Hb.out.keep (keep_of_below Hdn.out)) hio.ints Hpt.out Hday.out hel hen
        rw [hD] at hac
        rw [hel] at hac hca
        have Hx := Lib.hid hx
        have Hel := Lib.hid hel
        have Hen := Lib.hid hen
        have HD := Lib.hid hD
        have Hac := Lib.hid hac
        have Hbk := Lib.hid hbk
        have Hal := Lib.hid hal
        clear hx hel hen hD hac hbk hal
        clear hio
        go_wp2_with fail
        refine Hac.out.mono ?_
        rintro e' w4 ⟨C4, c4, e4, ho4, hb4⟩
        rw [hDl] at e4
        subst e4
        have hcap := ho4.cap
        rw [hDl] at hcap
        have hi4 := ho4.ints
        obtain ⟨g4, rfl, _, _, hc4, _⟩ := ownr ho4 Hbk.out
        have Hdn4 := Lib.hid (Hdn.out.trans (hb4.mono Hdn.out.size))
        have He4 := Lib.hid (He.out.below (hb4.mono hzr))
        have hz4 : w3.heap.size ≤ w4.heap.size := Nat.le_trans hzr hb4.size
        have Hmax : Hid (∀ n, Calls Try.prog 55 #[.slice (some ⟨g4, 0, none⟩) points.length c4] (w4.drewN n) (Quiet (w4.drewN n) (.int .i64 M))) := Lib.hid (fun n => by
          have := max_c (some ⟨g4, 0, none⟩) c4 x xs (w4.drewN n) (by rw [← hxs]; exact hi4.drewN n) (by rw [← hxs, hDl]; exact hm)
          rwa [← hxs, hDl, hM] at this)
        have Hidx : Hid (∀ n, Calls Try.prog 56 #[.slice (some ⟨g4, 0, none⟩) points.length c4, .int .i64 b] (w4.drewN n) (Quiet (w4.drewN n) (.int .i64 I))) := Lib.hid (fun n => by
          have := index_c (some ⟨g4, 0, none⟩) c4 D b (w4.drewN n) (hi4.drewN n) (by rw [hDl]; exact hm)
          rwa [hDl, hI] at this)
        have Hcon : Hid (∀ n, Calls Try.prog 45 #[.slice (if c4 = p + 1 then some ⟨g4, 0, none⟩ else some ⟨g4, p + 1, none⟩) (points.length - (p + 1)) (c4 - (p + 1)), .int .i64 b] (w4.drewN n) (Quiet (w4.drewN n) (.bool cn))) := Lib.hid (fun n => by
          have := contains_c (if c4 = p + 1 then some ⟨g4, 0, none⟩ else some ⟨g4, p + 1, none⟩) (c4 - (p + 1)) (D.drop (p + 1)) b (w4.drewN n) (ints_behind (hi4.drewN n) (by rw [hDl]; exact hcap)) (by rw [List.length_drop]; omega)
          rwa [List.length_drop, hDl, hcn] at this)
        clear ho4 hb4 hca
        have Hi4 := Lib.hid hi4
        have HDl := Lib.hid hDl
        have Hxs := Lib.hid hxs
        have HM := Lib.hid hM
        have HI := Lib.hid hI
        have Hcn := Lib.hid hcn
        clear hi4 hDl hxs hM hI hcn
        have hpw : (p : Int) < (points.length : Int) := by omega
        have wp1 : IntKind.i64.wrap ((p : Int) + 1) = (p : Int) + 1 := IntWalk.i64_in _ (by omega)
        by_cases hMb : M = b
        · have hMb' : (M == b) = true := by simpa using hMb
          by_cases hIp : I = (p : Int)
          · have hIp' : (I == (p : Int)) = true := by simpa using hIp
            cases cn
            · have HS2 : Hid (((s + 1 + ((endF games.length).drop (j + 1)).countP (isAlone points games p) : Nat) : Int) = R) := Lib.hid (by have := HS1.out; rwa [if_pos (by simp [hMb, hIp])] at this)
              have HMb := Lib.hid hMb
              have HIp := Lib.hid hIp
              clear hMb hIp
              go_wp2
              go_quiet ((first | (go_at_call 55; exact quiet_call (Hmax.out _)) | (go_at_call 56; exact quiet_call (Hidx.out _)) | (go_at_call 45; exact quiet_call (Hcon.out _))))
              go_wp2
              go_roundw
              case rel => exact ⟨j + 1, s + 1, by omega, by omega, by go_num, by go_num, HS2.out, He4.out.below (below_drewN _ _ _), Hdn4.out.trans (below_drewN _ _ _), hz4⟩
              case measure => simp [intOf]; omega
            · have HS2 : Hid (((s + ((endF games.length).drop (j + 1)).countP (isAlone points games p) : Nat) : Int) = R) := Lib.hid (by have := HS1.out; rwa [if_neg (by simp)] at this)
              have HMb := Lib.hid hMb
              have HIp := Lib.hid hIp
              clear hMb hIp
              go_wp2
              go_quiet ((first | (go_at_call 55; exact quiet_call (Hmax.out _)) | (go_at_call 56; exact quiet_call (Hidx.out _)) | (go_at_call 45; exact quiet_call (Hcon.out _))))
              go_wp2
              go_roundw
              case rel => exact ⟨j + 1, s, by omega, by omega, by go_num, by go_num, HS2.out, He4.out.below (below_drewN _ _ _), Hdn4.out.trans (below_drewN _ _ _), hz4⟩
              case measure => simp [intOf]; omega
          · have hIp' : (I == (p : Int)) = false := by simpa using hIp
            have HS2 : Hid (((s + ((endF games.length).drop (j + 1)).countP (isAlone points games p) : Nat) : Int) = R) := Lib.hid (by have := HS1.out; rwa [if_neg (by simp [hIp])] at this)
            have HMb := Lib.hid hMb
            have HIp := Lib.hid hIp
            clear hMb hIp
            go_wp2
            go_quiet ((first | (go_at_call 55; exact quiet_call (Hmax.out _)) | (go_at_call 56; exact quiet_call (Hidx.out _)) | (go_at_call 45; exact quiet_call (Hcon.out _))))
            go_wp2
            go_roundw
            case rel => exact ⟨j + 1, s, by omega, by omega, by go_num, by go_num, HS2.out, He4.out.below (below_drewN _ _ _), Hdn4.out.trans (below_drewN _ _ _), hz4⟩
            case measure => simp [intOf]; omega
        · have hMb' : (M == b) = false := by simpa using hMb
          have HS2 : Hid (((s + ((endF games.length).drop (j + 1)).countP (isAlone points games p) : Nat) : Int) = R) := Lib.hid (by have := HS1.out; rwa [if_neg (by simp [hMb])] at this)
          have HMb := Lib.hid hMb
          clear hMb
          go_wp2
          go_quiet ((first | (go_at_call 55; exact quiet_call (Hmax.out _)) | (go_at_call 56; exact quiet_call (Hidx.out _)) | (go_at_call 45; exact quiet_call (Hcon.out _))))
          go_wp2
          go_roundw
          case rel => exact ⟨j + 1, s, by omega, by omega, by go_num, by go_num, HS2.out, He4.out.below (below_drewN _ _ _), Hdn4.out.trans (below_drewN _ _ _), hz4⟩
          case measure => simp [intOf]; omega
      · obtain rfl : j = N := by omega
        have HS2 : Hid ((s : Int) = R) := Lib.hid (by have := HS.out; rwa [List.drop_of_length_le (by rw [HN.out]; exact Nat.le_refl _), List.countP_nil, Nat.add_zero] at this)
        go_wp2
        go_ret
        exact ⟨ret_int HS2.out, Hdn.out⟩
end Go.Proofs.Yteigcfcabmoghaa
