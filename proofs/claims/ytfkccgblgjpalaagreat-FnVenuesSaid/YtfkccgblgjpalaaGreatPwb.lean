
/- Contracts: a pattern with a break (program and reference). -/
import Derived.Test.YtfkccgblgjpalaaGreatOther
namespace Go.Proofs.YtfkccgblgjpalaaGreat
open Go.RowKit
set_option linter.unusedVariables false
set_option linter.unusedSimpArgs false

/-- The letter at an index: exchanged at each, but not at r. -/
def pwl (r : Int) (c : Nat) : Nat → Nat
  | 0 => c
  | i + 1 => if ((i + 1 : Nat) : Int) = r then pwl r c i else swapB (pwl r c i)
def pwRow (r : Int) (c k : Nat) : List Int := (List.range k).map fun i => ((pwl r c i : Nat) : Int)
def patWB (n r : Int) (f : ByteArray) : ByteArray × Bool :=
  if inR n 1 36 = true ∧ inR r 0 (n - 1) = true ∧ (f = ⟨#[72]⟩ ∨ f = ⟨#[65]⟩) then (strOfNums (pwRow r (if f = ⟨#[72]⟩ then 72 else 65) n.toNat), true) else (⟨#[]⟩, false)
theorem pwl_two (r : Int) (c : Nat) (hc : c = 72 ∨ c = 65) : ∀ i, pwl r c i = 72 ∨ pwl r c i = 65
  | 0 => hc
  | i + 1 => by
    rw [pwl]
    split
    · exact pwl_two r c hc i
    · rcases pwl_two r c hc i with h | h <;> rw [h]
      · exact .inr rfl
      · exact .inl rfl
theorem pwRow_len (r : Int) (c k : Nat) : (pwRow r c k).length = k := by simp [pwRow]
theorem pwRow_succ (r : Int) (c k : Nat) : pwRow r c (k + 1) = pwRow r c k ++ [((pwl r c k : Nat) : Int)] := by simp [pwRow, List.range_succ]
theorem pwRow_at (r : Int) (c k : Nat) (i : Nat) (h : i < k) : (pwRow r c k)[i]? = some ((pwl r c i : Nat) : Int) := by rw [pwRow, List.getElem?_map, List.getElem?_range h]; rfl
theorem strOf_one (y : Int) : strOfNums [y] = ⟨#[UInt8.ofNat y.toNat]⟩ := rfl
theorem str_eq0 {a b : ByteArray} (h : a = b) : (a.toList == b.toList) = true := by rw [h]; simp
theorem str_ne0 {a b : ByteArray} (h : a ≠ b) : (a.toList == b.toList) = false := by
  rw [beq_eq_false_iff_ne]
  intro e
  rw [Lib.toList_data, Lib.toList_data] at e
  exact h (by cases a; cases b; simp at e; rw [e])
theorem not_h (f : ByteArray) (h : f ≠ ⟨#[72]⟩) : (f.toList == [72]) = false := by
  have := str_ne0 h
  rwa [show (⟨#[72]⟩ : ByteArray).toList = [72] from by decide +kernel] at this
theorem not_a (f : ByteArray) (h : f ≠ ⟨#[65]⟩) : (f.toList == [65]) = false := by
  have := str_ne0 h
  rwa [show (⟨#[65]⟩ : ByteArray).toList = [65] from by decide +kernel] at this

/-- A text and a mark come back; draws alone. -/
def QuietSb (w : World) (s : ByteArray × Bool) (e : Ending) (w' : World) : Prop := e = .returned (.tuple #[.string s.1, .bool s.2]) ∧ Dr w w'
def GivesSb (w : World) (s : ByteArray × Bool) (e : Ending) (w' : World) : Prop := e = .returned (.tuple #[.string s.1, .bool s.2]) ∧ Below w.heap.size w w'
/-! ### The program's -/
set_option maxHeartbeats 2000000 in
theorem iPwb_c (n r : Int) (f : ByteArray) (w : World) : Calls Tryz.prog 31 #[.int .i64 n, .int .i64 r, .string f] w (GivesSb w (patWB n r f)) := by
  obtain ⟨R, hR⟩ : ∃ R, patWB n r f = R := ⟨_, rfl⟩
  rw [hR]
  have hl72 : (⟨#[72]⟩ : ByteArray).toList = [72] := by decide +kernel
  have hl65 : (⟨#[65]⟩ : ByteArray).toList = [65] := by decide +kernel
  cases h1 : inR n 1 36
  · have hR2 : (⟨#[]⟩, false) = R := by rw [← hR, patWB, if_neg (by simp [h1])]
    subst hR2
    have H1 := Lib.hid h1
    clear h1
    clear hR
    go_enter Tryz.func31, Tryz.ntmps31
    go_wp2_with fail
    refine (calls_v (within_c _ _ _ _) (congrArg Value.bool H1.out)).mono ?_
    rintro e w1 ⟨rfl, hq⟩
    go_wp2
    go_ret2
    exact ⟨rfl, hq.below _⟩
  · have hn := inR_true h1
    cases h2 : inR r 0 (n - 1)
    · have hR2 : (⟨#[]⟩, false) = R := by rw [← hR, patWB, if_neg (by simp [h2])]
      subst hR2
      have H1 := Lib.hid h1
      have H2 := Lib.hid h2
      clear h1 h2
      clear hR
      go_enter Tryz.func31, Tryz.ntmps31
      go_wp2_with fail
      refine (calls_v (within_c _ _ _ _) (congrArg Value.bool H1.out)).mono ?_
      rintro e w1 ⟨rfl, hq⟩
      have Hq := Lib.hid hq
      clear hq
      go_wp2_with fail
      refine (calls_v (within_c _ _ _ _) (congrArg Value.bool H2.out)).mono ?_
      rintro e w2 ⟨rfl, hq2⟩
      go_wp2
      go_ret2
      exact ⟨rfl, (Hq.out.trans hq2).below _⟩
    · by_cases hf : f = ⟨#[72]⟩ ∨ f = ⟨#[65]⟩
      · obtain ⟨N, rfl⟩ := Int.eq_ofNat_of_zero_le (show 0 ≤ n by omega)
        obtain ⟨c, hc, hfc, hR2⟩ : ∃ c : Nat, (c = 72 ∨ c = 65) ∧ f = ⟨#[UInt8.ofNat c]⟩ ∧ (strOfNums (pwRow r c N), true) = R := by
          rcases hf with hf | hf
          · exact ⟨72, .inl rfl, hf, by rw [← hR, patWB, if_pos ⟨h1, h2, .inl hf⟩, if_pos hf, Int.toNat_natCast]⟩
          · exact ⟨65, .inr rfl, hf, by rw [← hR, patWB, if_pos ⟨h1, h2, .inr hf⟩, if_neg (by rw [hf]; decide +kernel), Int.toNat_natCast]⟩
        subst hR2
        have htwo := pwl_two r c hc
        have hfs : strOfNums (pwRow r c 1) = f := by rw [hfc]; rfl
        have H0 : Hid (f = ⟨#[UInt8.ofNat (pwl r c 0)]⟩) := Lib.hid hfc
        have hrn := inR_true h2
        have H1 := Lib.hid h1
        have H2 := Lib.hid h2
        have Htwo := Lib.hid htwo
        have HR := Lib.hid hR
        have Hfs := Lib.hid hfs
        clear h1 h2 htwo hR hfs
        clear hfc hc
        rcases hf with hf | hf
        all_goals
          subst hf
          go_enter Tryz.func31, Tryz.ntmps31
          go_wp2_with fail
          refine (calls_v (within_c _ _ _ _) (congrArg Value.bool H1.out)).mono ?_
          rintro e w1 ⟨rfl, hq⟩
          have Hq := Lib.hid hq
          clear hq
          go_wp2_with fail
          refine (calls_v (within_c _ _ _ _) (congrArg Value.bool H2.out)).mono ?_
          rintro e w2 ⟨rfl, hq2⟩
          have Hq2 := Lib.hid (Hq.out.trans hq2)
          clear hq2
          go_wp2
          go_loopw [8, 9] (fun t i wr => ∃ k : Nat, k + 1 ≤ N ∧ i = .int .i64 ((k + 1 : Nat) : Int) ∧ t = .string (strOfNums (pwRow r c (k + 1))) ∧ Below w.heap.size w wr) (fun _ i _ => N - (intOf i).toNat)
          case atStart => exact ⟨0, by omega, rfl, congrArg Value.string Hfs.out.symm, Hq2.out.below _⟩
          case round =>
            obtain ⟨k, hk, rfl, rfl, hd⟩ := hrel
            have Hd := Lib.hid hd
            clear hd
            by_cases hlt : k + 1 < N
            · have hki : (k : Int) + 1 < (N : Int) := by omega
              have hkr : (((k + 1 : Nat) : Int)) = (k : Int) + 1 := by omega
              have hsz : (strOfNums (pwRow r c (k + 1))).size = k + 1 := by rw [strOfNums_size, pwRow_len]
              have hex : (strOfNums (pwRow r c (k + 1))).extract k (strOfNums (pwRow r c (k + 1))).size = ⟨#[UInt8.ofNat (pwl r c k)]⟩ := by
                have hkl : k < (strOfNums (pwRow r c (k + 1))).size := by omega
                rw [hsz, one_of _ k hkl]
                have h1 := bytes_at _ k hkl
                rw [strOfNums_data, List.getElem?_map, pwRow_at r c (k + 1) k (by omega)] at h1
                have h2 := Option.some.inj h1
                rw [← h2]; simp
              generalize hs : strOfNums (pwRow r c (k + 1)) = t at hsz hex ⊢
              have hsz' : (t.size : Int) ≤ 36 := by omega
              have hsk : (k : Int) ≤ (t.size : Int) := by omega
              have wk : IntKind.i64.wrap ((k : Int) + 1 - 1) = (k : Int) := by rw [IntWalk.i64_in _ (by omega)]; omega
              rcases Htwo.out k with hx | hx
              · rw [hx] at hex
                replace hex : t.extract k t.size = ⟨#[72]⟩ := hex
                have hoc : ∀ W, Calls Tryz.prog 21 #[.string (t.extract k t.size)] W (Gives W (.string ⟨#[65]⟩)) := fun W => by
                  rw [hex]; exact gives_v (iOtherPattern_c _ W) (congrArg Value.string (by decide +kernel))
                have Hex := Lib.hid hex
                have Hoc := Lib.hid hoc
                clear hex hoc
                by_cases hir : (k : Int) + 1 = r
                · have e1 : ((k : Int) + 1 != r) = false := by simpa using hir
                  have hnew : pwl r c (k + 1) = 72 := by rw [pwl, if_pos (by rw [hkr]; exact hir)]; exact hx
                  clear hkr
                  have hstep : pwRow r c (k + 1 + 1) = pwRow r c (k + 1) ++ [72] := by rw [pwRow_succ, hnew]; rfl
                  have Hs := Lib.hid hs
                  have Hstep := Lib.hid hstep
                  have Hsz := Lib.hid hsz
                  have Hir := Lib.hid hir
                  have Hx := Lib.hid hx
                  have Hnew := Lib.hid hnew
                  clear hs hstep hsz hir hx hnew
                  go_wp2
                  rw [Hex.out]
                  go_roundw
                  case rel => exact ⟨k + 1, by omega, by go_num, by rw [Hstep.out, ← str_snoc' _ 72 72 rfl, Hs.out], Hd.out⟩
                  case measure => simp [intOf]; omega
                · have e1 : ((k : Int) + 1 != r) = true := by simpa using hir
                  have hnew : pwl r c (k + 1) = 65 := by rw [pwl, if_neg (by rw [hkr]; exact hir), hx]; rfl
                  clear hkr
                  have hstep : pwRow r c (k + 1 + 1) = pwRow r c (k + 1) ++ [65] := by rw [pwRow_succ, hnew]; rfl
                  have Hs := Lib.hid hs
                  have Hstep := Lib.hid hstep
                  have Hsz := Lib.hid hsz
                  have Hir := Lib.hid hir
                  have Hx := Lib.hid hx
                  have Hnew := Lib.hid hnew
                  clear hs hstep hsz hir hx hnew
                  go_wp2_with fail
                  refine (Hoc.out _).mono ?_
                  rintro e w5 ⟨rfl, hb5⟩
                  have Hb5 := Lib.hid (Hd.out.trans (hb5.mono Hd.out.size))
                  clear hb5
                  go_wp2
                  go_roundw
                  case rel => exact ⟨k + 1, by omega, by go_num, by rw [Hstep.out, ← str_snoc' _ 65 65 rfl, Hs.out], Hb5.out⟩
                  case measure => simp [intOf]; omega
              · rw [hx] at hex
                replace hex : t.extract k t.size = ⟨#[65]⟩ := hex
                have hoc : ∀ W, Calls Tryz.prog 21 #[.string (t.extract k t.size)] W (Gives W (.string ⟨#[72]⟩)) := fun W => by
                  rw [hex]; exact gives_v (iOtherPattern_c _ W) (congrArg Value.string (by decide +kernel))
                have Hex := Lib.hid hex
                have Hoc := Lib.hid hoc
                clear hex hoc
                by_cases hir : (k : Int) + 1 = r
                · have e1 : ((k : Int) + 1 != r) = false := by simpa using hir
                  have hnew : pwl r c (k + 1) = 65 := by rw [pwl, if_pos (by rw [hkr]; exact hir)]; exact hx
                  clear hkr
                  have hstep : pwRow r c (k + 1 + 1) = pwRow r c (k + 1) ++ [65] := by rw [pwRow_succ, hnew]; rfl
                  have Hs := Lib.hid hs
                  have Hstep := Lib.hid hstep
                  have Hsz := Lib.hid hsz
                  have Hir := Lib.hid hir
                  have Hx := Lib.hid hx
                  have Hnew := Lib.hid hnew
                  clear hs hstep hsz hir hx hnew
                  go_wp2
                  rw [Hex.out]
                  go_roundw
                  case rel => exact ⟨k + 1, by omega, by go_num, by rw [Hstep.out, ← str_snoc' _ 65 65 rfl, Hs.out], Hd.out⟩
                  case measure => simp [intOf]; omega
                · have e1 : ((k : Int) + 1 != r) = true := by simpa using hir
                  have hnew : pwl r c (k + 1) = 72 := by rw [pwl, if_neg (by rw [hkr]; exact hir), hx]; rfl
                  clear hkr
                  have hstep : pwRow r c (k + 1 + 1) = pwRow r c (k + 1) ++ [72] := by rw [pwRow_succ, hnew]; rfl
                  have Hs := Lib.hid hs
                  have Hstep := Lib.hid hstep
                  have Hsz := Lib.hid hsz
                  have Hir := Lib.hid hir
                  have Hx := Lib.hid hx
                  have Hnew := Lib.hid hnew
                  clear hs hstep hsz hir hx hnew
                  go_wp2_with fail
                  refine (Hoc.out _).mono ?_
                  rintro e w5 ⟨rfl, hb5⟩
                  have Hb5 := Lib.hid (Hd.out.trans (hb5.mono Hd.out.size))
                  clear hb5
                  go_wp2
                  go_roundw
                  case rel => exact ⟨k + 1, by omega, by go_num, by rw [Hstep.out, ← str_snoc' _ 72 72 rfl, Hs.out], Hb5.out⟩
                  case measure => simp [intOf]; omega
            · obtain rfl : k + 1 = N := by omega
              go_wp2
              go_ret2
              exact ⟨rfl, Hd.out⟩
      · have h72 := not_h f (fun e => hf (.inl e))
        have h65 := not_a f (fun e => hf (.inr e))
        have hR2 : (⟨#[]⟩, false) = R := by rw [← hR, patWB, if_neg (fun e => hf e.2.2)]
        subst hR2
        have H1 := Lib.hid h1
        have H2 := Lib.hid h2
        clear h1 h2
        clear hR hf
        go_enter Tryz.func31, Tryz.ntmps31
        go_wp2_with fail
        refine (calls_v (within_c _ _ _ _) (congrArg Value.bool H1.out)).mono ?_
        rintro e w1 ⟨rfl, hq⟩
        have Hq := Lib.hid hq
        clear hq
        go_wp2_with fail
        refine (calls_v (within_c _ _ _ _) (congrArg Value.bool H2.out)).mono ?_
        rintro e w2 ⟨rfl, hq2⟩
        go_wp2
        go_ret2
        exact ⟨rfl, (Hq.out.trans hq2).below _⟩
end Go.Proofs.YtfkccgblgjpalaaGreat
