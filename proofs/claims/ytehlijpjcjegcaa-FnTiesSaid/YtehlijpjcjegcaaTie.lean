/- The set of a level: it is who has as many points as its first (plain); setOf (program); append of a row to a row of the call's own: where it lies. -/
import Derived.Test.YtehlijpjcjegcaaLevels
import Derived.Test.YtehlijpjcjegcaaLgK
import Derived.Test.YtehlijpjcjegcaaHeadT
import Derived.Deep.AppendLies
namespace Go.Proofs.Ytehlijpjcjegcaa
set_option linter.unusedSimpArgs false
set_option linter.unusedVariables false
open Go.RowKit

def setF (lv : List Int) : Nat := lv.foldl (fun s a => s ||| 2 ^ a.toNat) 0
theorem bit_of (s k : Nat) : s.testBit k = decide (s / 2 ^ k % 2 = 1) := Nat.testBit_eq_decide_div_mod_eq
theorem setF_bit (lv : List Int) : ∀ (s k : Nat), (lv.foldl (fun s a => s ||| 2 ^ a.toNat) s).testBit k = (s.testBit k || decide (∃ a ∈ lv, a.toNat = k)) := by
  induction lv with
  | nil => intro s k; simp
  | cons a r ih =>
    intro s k
    rw [List.foldl_cons, ih, Nat.testBit_or, Nat.testBit_two_pow, Bool.or_assoc]
    congr 1
    rw [Bool.eq_iff_iff]
    simp
theorem tie_bit (l : List Int) (x : Int) : ∀ (f j s k : Nat), s < 2 ^ j → (tieFrom l x f j s).testBit k = (s.testBit k || decide (j ≤ k ∧ k < j + f ∧ l.getD k 0 = x))
  | 0, j, s, k, _ => by
    rw [tieFrom]
    have : ¬ (j ≤ k ∧ k < j + 0 ∧ l.getD k 0 = x) := fun h => by omega
    rw [decide_eq_false this, Bool.or_false]
  | f + 1, j, s, k, hs => by
    have h2 : 2 ^ (j + 1) = 2 * 2 ^ j := by rw [Nat.pow_succ]; omega
    rw [tieFrom, tie_bit l x f (j + 1) _ k (by split <;> omega)]
    have hor : s + 2 ^ j = 2 ^ j ||| s := by
      have := Nat.two_pow_add_eq_or_of_lt hs 1
      rw [Nat.mul_one] at this
      rw [← this, Nat.add_comm]
    split
    · rename_i hx
      rw [hor, Nat.testBit_or, Nat.testBit_two_pow, Bool.eq_iff_iff]
      simp only [Bool.or_eq_true, decide_eq_true_eq]
      constructor
      · rintro ((h | h) | ⟨h1, h3, h4⟩)
        · subst h; exact .inr ⟨Nat.le_refl _, by omega, hx⟩
        · exact .inl h
        · exact .inr ⟨by omega, by omega, h4⟩
      · rintro (h | ⟨h1, h3, h4⟩)
        · exact .inl (.inr h)
        · by_cases e : j = k
          · exact .inl (.inl e)
          · exact .inr ⟨by omega, by omega, h4⟩
    · rename_i hx
      rw [Bool.eq_iff_iff]
      simp only [Bool.or_eq_true, decide_eq_true_eq]
      constructor
      · rintro (h | ⟨h1, h3, h4⟩)
        · exact .inl h
        · exact .inr ⟨by omega, by omega, h4⟩
      · rintro (h | ⟨h1, h3, h4⟩)
        · exact .inl h
        · by_cases e : j = k
          · subst e; exact absurd h4 hx
          · exact .inr ⟨by omega, by omega, h4⟩
theorem set_tied {l : List Int} {lv : List Int} (h : lv ∈ levF l) : setF lv = tiedOf l (lv.getD 0 0).toNat ∧ ∃ (a : Nat) (r : List Nat), lv = (a :: r).map (fun a : Nat => (a : Int)) ∧ (∀ b ∈ a :: r, b < l.length) := by
  obtain ⟨a, r, rfl, ha, _, hmem⟩ := levelsOf_mem h
  refine ⟨?_, a, r, rfl, fun b hb => ((hmem b).1 hb).1⟩
  rw [head_toNat]
  apply Nat.eq_of_testBit_eq
  intro k
  rw [setF, setF_bit, tiedOf, tie_bit _ _ _ _ _ _ (by simp), Bool.eq_iff_iff]
  simp only [Nat.zero_testBit, Bool.false_or, decide_eq_true_eq, Nat.zero_le, true_and, Nat.zero_add]
  have hk := hmem k
  rw [keyOf, keyOf] at hk
  rw [← hk]
  constructor
  · rintro ⟨y, hy, e⟩
    obtain ⟨b, hb, rfl⟩ := List.mem_map.1 hy
    rw [Int.toNat_natCast] at e
    rwa [← e]
  · intro hk
    exact ⟨(k : Int), List.mem_map.2 ⟨k, hk, rfl⟩, Int.toNat_natCast k⟩

set_option maxHeartbeats 1000000 in
theorem setOf_c (A : Option Addr) (c : Nat) (l : List Nat) (w : World) (ha : Ints w A (nums l)) (hl : l.length ≤ 1048576) (h8 : ∀ b ∈ l, b < 8) :
    Calls Try.prog 70 #[.slice A l.length c] w (Quiet w (.int .i64 (setF (nums l) : Nat))) := by
  generalize hR : setF (nums l) = R
  have HR := Lib.hid hR
  clear hR
  have HS : Hid ((nums l).foldl (fun s a => s ||| 2 ^ a.toNat) 0 = R) := Lib.hid HR.out
  obtain ⟨n, hn⟩ : ∃ n, l.length = n := ⟨_, rfl⟩
  rw [hn] at hl ⊢
  have hnl : (nums l).length = n := by rw [nums, List.length_map, hn]
  have Ha := Lib.hid ha
  have H8 := Lib.hid h8
  have Hn := Lib.hid hn
  have Hnl := Lib.hid hnl
  clear ha h8 hn hnl
  clear HR
  go_enter Try.func70, Try.ntmps70
  go_wp2
  go_loopw [3, 8] (fun m i wr => ∃ (j s : Nat), j ≤ n ∧ i = .int .i64 j ∧ m = .int .i64 s ∧ s < 256 ∧ ((nums l).drop j).foldl (fun s a => s ||| 2 ^ a.toNat) s = R ∧ Dr w wr) (fun _ i _ => n - (intOf i).toNat)
  case atStart => exact ⟨0, 0, by omega, rfl, rfl, by decide, HS.out, Dr.refl _⟩
  case round =>
    obtain ⟨j, s, hj, rfl, rfl, hs, hS, hd⟩ := hrel
    by_cases hlt : j < n
    · obtain ⟨a, hx⟩ := some_of (l := l) (k := j) (by rw [Hn.out]; exact hlt)
      have ha8 := H8.out a (List.mem_of_getElem? hx)
      obtain ⟨M, hM⟩ : ∃ M, 2 ^ a = M := ⟨_, rfl⟩
      have hM64 : M < 256 := by rw [← hM]; exact (Nat.pow_lt_pow_right (by decide) ha8 : 2 ^ a < 2 ^ 8)
      have e0 : wrap64 ((2 : Int) ^ a) = (M : Int) := pow_wrap hM (by omega)
      have e1 : bits .or .i64 (s : Int) (M : Int) = ((s ||| M : Nat) : Int) := i64_or_nat s M (by omega) (by omega)
      have hsM : s ||| M < 256 := (Nat.or_lt_two_pow (n := 8) hs hM64 : s ||| M < 2 ^ 8)
      have hS2 : ((nums l).drop (j + 1)).foldl (fun s a => s ||| 2 ^ a.toNat) (s ||| M) = R := by rw [drop_of (nums_at hx), List.foldl_cons, Int.toNat_natCast, hM] at hS; exact hS
      obtain ⟨ad, rfl, hcy⟩ := (Ha.out.keep hd.keep) j (a : Int) (nums_at hx)
      have HM := Lib.hid hM
      have Hx := Lib.hid hx
      have HS2 := Lib.hid hS2
      have HS := Lib.hid hS
      have Hd := Lib.hid hd
      have Hs := Lib.hid hs
      clear hM hx hS2 hS hd hs
      go_wp2
      go_roundw
      case rel => exact ⟨j + 1, s ||| M, by omega, by go_num, by go_num, hsM, HS2.out, Hd.out⟩
      case measure => simp [intOf]; omega
    · obtain rfl : j = n := by omega
      rw [List.drop_of_length_le (by rw [Hnl.out]; exact Nat.le_refl _), List.foldl_nil] at hS
      have HS := Lib.hid hS
      have Hd := Lib.hid hd
      clear hS hd
      go_wp2
      go_ret
      exact ⟨ret_int (by rw [HS.out]), Hd.out⟩

theorem belowd (w : World) : Below w.heap.size w w.drew := ⟨rfl, rfl, rfl, Nat.le_refl _, fun _ _ => rfl⟩
/-- append of a row, at a step of a region that draws its order; where the new row lies. -/
theorem step_appN {P : Program} {wr : World} {ops : Array Oper} {o : Oper} {a : Act} {K : Act → World → Prop} {Q : Exit → Act → World → Prop} {E : Prop} (hgd : o.guard = none) (s x : Operand) (t : TypeId)
    (ho : o.op = .call { callee := .builtin .append, args := #[s, x], argTypes := #[t, t] }) (T : TypeId) (z : Value) (bytes : Nat) (ht : P.underlying t = some (.slice T))
    (hinfo : (P.info? T).map (fun i => (i.zero, i.size, i.bytes)) = some (some z, 1, bytes)) (hz1 : z.cells.size = 1) (lo : Nat) (A : Option Addr) (c : Nat) (us : List Value)
    (hown : Own T lo wr.heap.size wr A c us) (hlo : lo ≤ wr.heap.size) (B : Option Addr) (d : Nat) (vs : List Value) (hsrc : Cells wr B vs) (hu : ∀ u ∈ vs, u.oneCell' = true) (hlen : us.length ≤ 1048576) (hlen2 : vs.length ≤ 1048576) (hb : bytes ≤ 64)
    (n m : Nat) (hn : n = us.length) (hm : m = vs.length) (hs : a.eval s = .slice A n c) (hx : a.eval x = .slice B m d)
    (h : ∀ A' c' w', Own T lo w'.heap.size w' A' c' (us ++ vs) → wr.grownBy w' (Value.slice A n c).ownBlock → (∀ g', A' = some g' → A = some g' ∨ wr.heap.size ≤ g'.block) → (A' = none → A = none) → K (a.put o.dst (.slice A' (n + m) c')) w') :
    if Region.wanted o (yielded ops a.tmps) = true then Oper.wp P o a wr K Q else E := by
  rw [if_pos (by simp [Region.wanted, hgd])]
  subst hn; subst hm
  obtain ⟨i0, hi, hz0, hz2, hz3⟩ := info_parts hinfo
  cases B with
  | none =>
    have hv : vs = [] := by
      cases vs with
      | nil => rfl
      | cons v t => obtain ⟨ad, e, _⟩ := hsrc 0 v rfl; cases e
    subst hv
    have hr := run_append_nil' (P := P) wr lo t o.type T i0 1 ht hi _ _ _ hown.ownsRow d
    have h0 := h A c wr (by simpa using hown) (World.grownBy.refl _ _) (fun _ e => .inl e) id
    unfold Oper.wp execOp
    simp only [ho, resolve, invoke, builtin, Sem.run_bind, Sem.run_pure, Result.andThen_ok, List.map_toArray, List.map_cons, List.map_nil, hs, hx, List.length_nil, hr]
    have h1 : K (a.put o.dst (.slice A us.length c)) wr := by simpa using h0
    exact h1
  | some ad =>
    obtain ⟨v', w', hr, hown', hgrow, hnil, hat⟩ := run_append_own_at (P := P) wr lo t o.type T i0 z 1 bytes ht hi hz0 hz2 hz3 hz1 (by decide) (.slice A us.length c) us.length us hown.ownsRow ad vs.length d vs (by simp) (by
        intro j v hj
        obtain ⟨ad', e, hc⟩ := hsrc j v hj
        injection e with e; subst e; exact hc) hu (by unfold maxLen; omega) (by
        have : (us.length + vs.length) * bytes ≤ 2097152 * 64 := Nat.mul_le_mul (by omega) hb
        omega) hlo
    obtain ⟨A', c', rfl, hl, ho'⟩ := Own.of_row hown'
    have h0 := h A' c' w' ho' hgrow (fun g' e => by
      subst e
      obtain ⟨_, _, e1⟩ := ho'.le
      rcases hat with hat | hat
      · cases A with
        | none => simp [Value.ownBlock] at hat
        | some a0 =>
          obtain ⟨_, _, e2⟩ := hown.le
          simp only [Value.ownBlock, Option.some.injEq] at hat
          left; rw [e1, e2, hat]
      · simp only [Value.ownBlock, Option.some.injEq] at hat
        right; omega) (fun e => by
      subst e
      obtain ⟨_, _, h3⟩ := ho'
      rcases h3 with ⟨_, e1, e2⟩ | ⟨g, cs, e1, _⟩
      · have := (hnil.1 (by rw [e1, e2]; rfl)).1
        injection this
      · cases e1)
    unfold Oper.wp execOp
    simp only [ho, resolve, invoke, builtin, Sem.run_bind, Sem.run_pure, Result.andThen_ok, List.map_toArray, List.map_cons, List.map_nil, hs, hx, hr]
    rw [hl]; exact h0
end Go.Proofs.Ytehlijpjcjegcaa
