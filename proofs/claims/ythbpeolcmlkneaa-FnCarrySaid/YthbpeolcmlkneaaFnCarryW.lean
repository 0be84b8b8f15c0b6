/- The walk of the law on carry-over (FnCarry): it returns true for every code. -/
import Derived.Test.YthbpeolcmlkneaaPlanM
import Derived.Test.YthbpeolcmlkneaaCarryP
import Derived.Test.YthbpeolcmlkneaaCarryW
import Derived.Test.YthbpeolcmlkneaaCode
import Derived.Test.YthbpeolcmlkneaaLsum
import Derived.Test.YthbpeolcmlkneaaPast
namespace Go.Proofs.Ythbpeolcmlkneaa
open Go.ChangeShapes Go.WideShapes Go.ChangeAt Go.RowKit
set_option linter.unusedVariables false
set_option linter.unusedSimpArgs false

theorem tab_row {n : Nat} {b : Int} {t : List (List Int)} (ht : Tab n b t) {k : Nat} (hk : k < n) : ∃ xs, t[k]? = some xs ∧ t.getD k [] = xs ∧ xs.length = n ∧ ∀ x ∈ xs, 0 ≤ x ∧ x ≤ b := by
  obtain ⟨xs, hx⟩ := some_of (l := t) (k := k) (by rw [ht.len]; exact hk)
  obtain ⟨h1, h2⟩ := ht.row xs (List.mem_of_getElem? hx)
  exact ⟨xs, hx, by rw [List.getD_eq_getElem?_getD, hx]; rfl, h1, h2⟩
theorem follows_at {n : Nat} {plan : List (List Int)} (h1 : planOk n plan = true) (h2 : plan ≠ []) {a b : Nat} (ha : a < n) (hb : b < n) :
    followsF n plan a b = ((carryR plan n plan.length 0 (zeros n)).getD a []).getD b 0 := by
  rw [followsF, if_pos (by simp only [followsOk, Bool.and_eq_true, decide_eq_true_eq, inR]; refine ⟨⟨⟨h1, h2⟩, ?_⟩, ?_⟩ <;> simp <;> omega), Int.toNat_natCast, Int.toNat_natCast, Int.toNat_natCast]

/-- What the law on carry-over wants of a plan, in plain Lean. -/
structure Facts (n : Nat) (plan t : List (List Int)) (M : Nat) (V N Q : Int) : Prop where
  tab : Tab n 360 t
  row : ∀ xs ∈ t, xs.sum = (M : Int)
  fol : ∀ a b, a < n → b < n → followsF n plan a b = (t.getD a []).getD b 0
  val : valF n plan = V
  sq : sqT t 0 = V
  tot : (t.map List.sum).sum = N
  mul : (n : Int) * (M : Int) = N
  two : (n : Int) * ((n : Int) - 1) = Q
  rr : rrOk n plan 1 = true → Q ≤ V
theorem facts_of {n : Nat} {plan : List (List Int)} (h1 : planOk n plan = true) (h2 : plan ≠ []) :
    Facts n plan (carryR plan n plan.length 0 (zeros n)) plan.length (valF n plan) ((n : Int) * (plan.length : Int)) ((n : Int) * ((n : Int) - 1)) where
  tab := carry_tab h1
  row := carry_rows h1
  fol := fun a b ha hb => follows_at h1 h2 ha hb
  val := rfl
  sq := by rw [valF, if_pos ⟨h1, h2⟩]; rfl
  tot := by rw [rows_sum (n := n) _ (carry_rows h1), (carry_tab h1).len]
  mul := rfl
  two := rfl
  rr := fun h => by have := val_ge h1 h2; rwa [rr_len h] at this

theorem lit3 (W : World) (T : TypeId) (r : Nat) (h : r < 3) : ∃ q, XSize q ∧ (W.alloc (.cells #[.int .i64 2, .int .i64 4, .int .i64 8] T)).cell? ⟨W.heap.size, r, none⟩ = some (.int .i64 (q : Int)) := by
  rw [cell_of_row _ _ r _ T (0, 0) (heap_alloc_new W _)]
  match r, h with
  | 0, _ => exact ⟨2, .inl rfl, rfl⟩
  | 1, _ => exact ⟨4, .inr (.inl rfl), rfl⟩
  | 2, _ => exact ⟨8, .inr (.inr rfl), rfl⟩
/-- New rows come back, so many. -/
def GivesR (w : World) (xss : List (List Int)) (M : Nat) (e : Ending) (w' : World) : Prop := ∃ A c, e = .returned (.slice A M c) ∧ Rows w' A xss ∧ Below w.heap.size w w'
theorem GivesII_len {w : World} {xss : List (List Int)} {M : Nat} {P : Program} {f : FuncId} {args : Array Value} (h : xss.length = M) (k : Calls P f args w (GivesII 3 38 w xss)) : Calls P f args w (GivesR w xss M) :=
  k.mono fun e w' ⟨A, c, he, ho, hb⟩ => ⟨A, c, by rw [← h]; exact he, ho.rows, hb⟩

set_option maxRecDepth 8000 in
set_option maxHeartbeats 4000000 in
theorem fnCarry_walk (w : World) (A : Option Addr) (m c : Nat) (hb : Byt w A m) (hA : ∀ a, A = some a → 0 < m → a.block < w.heap.size) (hm : m ≤ maxLen) :
    Calls Try.prog 9 #[.slice A m c] w fun e w' => e = .returned (.bool true) ∧ Below w.heap.size w w' := by
  by_cases hbig : 1048576 < m
  · have hmi : (1048576 : Int) < (m : Int) := by omega
    clear hb hA hm hmi
    go_enter Try.func9, Try.ntmps9
    go_wp2
    go_ret
    exact ⟨rfl, Below.refl _ _⟩
  · have hmi : ¬ (1048576 : Int) < (m : Int) := by omega
    have hmp : Calls Try.prog 30 #[.slice A m c, .int .i64 0] w (APlan w) := makePlan_c A m c 0 w hb hA (by omega) (by omega)
    have hmn : ∀ w', Below w.heap.size w w' → Calls Try.prog 34 #[.slice A m c, .int .i64 40] w' (ANum w' 65535) := fun w' h => makeNum_c A m c 40 w' (hb.keep (keep_of_below h)) (fun a e h0 => Nat.lt_of_lt_of_le (hA a e h0) h.size) (by omega) (by omega)
    have Hmp := Lib.hid hmp
    have Hmn := Lib.hid hmn
    clear hmp hmn
    have hm' : m ≤ 1048576 := by omega
    clear hb hA hm hbig hmi
    go_enter Try.func9, Try.ntmps9
    go_wp2_with fail
    refine (Hmp.out).mono ?_
    rintro e w1 ⟨n, B, d, plan, rfl, hs, hp, hl, hr, hb1⟩
    obtain ⟨M, hM⟩ : ∃ M, plan.length = M := ⟨_, rfl⟩
    rw [hM] at hl ⊢
    have hn2 : 2 ≤ n := by rcases hs with h | h | h | h <;> omega
    have hn8 : n ≤ 8 := by rcases hs with h | h | h | h <;> omega
    have hm20 : plan.length ≤ 1048576 := by omega
    by_cases h2 : plan = []
    · have hM0 : M = 0 := by rw [← hM, h2]; rfl
      have hno : ¬ (planOk n plan = true ∧ plan ≠ []) := fun h => h.2 h2
      have hv : valF n plan = -1 := by rw [valF, if_neg hno]
      have hbl : balF n plan = false := by rw [balF, if_neg hno]
      have hct := iCarryTable_no n B d plan w1 hr hm20 hno
      rw [hM] at hct
      subst hM0
      clear h2 hn2 hn8 hl hs
      have Hr := Lib.hid hr
      have Hct := Lib.hid hct
      have Hb1 := Lib.hid hb1
      have Hno := Lib.hid hno
      have Hv := Lib.hid hv
      have Hbl := Lib.hid hbl
      have Hp := Lib.hid hp
      have HM := Lib.hid hM
      clear hr hct hb1 hno hv hbl hp hM
      go_wp2_with fail
      refine (Hct.out).mono ?_
      rintro e w2 ⟨rfl, hb2⟩
      have Hb2 := Lib.hid (Hb1.out.trans (hb2.mono Hb1.out.size))
      have Hr2 := Lib.hid (Hr.out.keep (keep_of_below hb2))
      have hcv := iCarryValue_c n B d plan w2 Hr2.out hm20
      rw [Hv.out, HM.out] at hcv
      have Hcv := Lib.hid hcv
      clear hcv
      clear hb2
      go_wp2_with fail
      refine (Hcv.out).mono ?_
      rintro e w3 ⟨rfl, hb3⟩
      have Hb3 := Lib.hid (Hb2.out.trans (hb3.mono Hb2.out.size))
      have Hr3 := Lib.hid (Hr2.out.keep (keep_of_below hb3))
      have hic := gives_v (iIsBalancedPlan_c n B d plan w3 Hr3.out hm20) (congrArg Value.bool Hbl.out)
      rw [HM.out] at hic
      have Hic := Lib.hid hic
      clear hic
      clear hb3
      go_wp2_with fail
      refine (Hic.out).mono ?_
      rintro e w4 ⟨rfl, hb4⟩
      have hpc := calls_v (iPlanOk_c n B d plan w4 (Hr3.out.keep (keep_of_below hb4)) hm20) (congrArg Value.bool Hp.out)
      rw [HM.out] at hpc
      have Hb4 := Lib.hid (Hb3.out.trans (hb4.mono Hb3.out.size))
      have Hpc := Lib.hid hpc
      clear hpc
      clear hb4
      go_wp2_with fail
      refine (Hpc.out).mono ?_
      rintro e w5 ⟨rfl, hq⟩
      go_wp2
      go_ret
      exact ⟨rfl, Hb4.out.trans (hq.below _)⟩
    · have hM1 : 1 ≤ M := by
        rcases Nat.eq_zero_or_pos M with h | h
        · exact absurd (List.length_eq_zero_iff.1 (hM.trans h)) h2
        · exact h
      have hf := facts_of hp h2
      have hct := iCarryTable_t n B d plan w1 hr hm20 hp h2
      have hlf := least_facts hp h2
      obtain ⟨t, ht⟩ : ∃ t, carryR plan n plan.length 0 (zeros n) = t := ⟨_, rfl⟩
      obtain ⟨V, hV⟩ : ∃ V, valF n plan = V := ⟨_, rfl⟩
      obtain ⟨N, hN⟩ : ∃ N, (n : Int) * (plan.length : Int) = N := ⟨_, rfl⟩
      obtain ⟨Q, hQ⟩ : ∃ Q, (n : Int) * ((n : Int) - 1) = Q := ⟨_, rfl⟩
      rw [ht, hV, hN, hQ, hM] at hf
      rw [ht, hM] at hct
      rw [hV, hM] at hlf
      have hN1 : 0 ≤ N ∧ N ≤ 112 := by
        rw [hM] at hN
        have h1 := Nat.mul_le_mul hn8 hl
        have h3 : ((n * M : Nat) : Int) = N := by rw [Int.natCast_mul]; exact hN
        omega
      have hQ1 : 0 ≤ Q ∧ Q ≤ 56 := by rcases hs with h | h | h | h <;> subst h <;> simp at hQ <;> omega
      obtain ⟨hN0, hN1⟩ := hN1
      obtain ⟨hQ0, hQ1⟩ := hQ1
      clear ht hN hQ h2 hs
      have Hr := Lib.hid hr
      have Hct := Lib.hid hct
      have Hb1 := Lib.hid hb1
      have Hf := Lib.hid hf
      have Hlf := Lib.hid hlf
      have HV := Lib.hid hV
      have HM := Lib.hid hM
      have Hp := Lib.hid hp
      clear hr hct hb1 hf hlf hV hM hp
      go_wp2_with fail
      refine (Hct.out).mono ?_
      rintro e w2 ⟨ad, c1, rfl, hr2, hb2⟩
      have Hb2 := Lib.hid (Hb1.out.trans (hb2.mono Hb1.out.size))
      have Hp2 := Lib.hid (Hr.out.keep (keep_of_below hb2))
      have Hr2 := Lib.hid hr2
      clear hr2
      have hcv := iCarryValue_c n B d plan w2 Hp2.out hm20
      rw [HV.out, HM.out] at hcv
      have Hcv := Lib.hid hcv
      clear hcv
      clear hb2 Hct Hr Hb1
      go_wp2_with fail
      refine (Hcv.out).mono ?_
      rintro e w3 ⟨rfl, hb3⟩
      have Hb3 := Lib.hid (Hb2.out.trans (hb3.mono Hb2.out.size))
      have Hp3 := Lib.hid (Hp2.out.keep (keep_of_below hb3))
      have Hr3 := Lib.hid (Hr2.out.keep (keep_of_below hb3))
      clear hb3 Hcv Hb2 Hp2 Hr2
      have hMi : ((M : Int) == 0) = false := by rw [beq_eq_false_iff_ne]; omega
      go_wp2
      go_loopw [9, 8, 7] (fun i uu zz wr => ∃ (k : Nat) (u z : Int), k ≤ n ∧ i = .int .i64 k ∧ uu = .int .i64 u ∧ zz = .int .i64 z ∧ 0 ≤ z ∧ z ≤ 1296000 * (k : Int) ∧ 0 ≤ u ∧ u ≤ 3600 * (k : Int) ∧ sqT (t.drop k) z = V ∧ u + ((t.drop k).map List.sum).sum = N ∧ Below w.heap.size w wr ∧ Keep w3 wr) (fun i _ _ _ => n - (intOf i).toNat)
      case atStart => exact ⟨0, 0, 0, Nat.zero_le _, rfl, rfl, rfl, by omega, by omega, by omega, by omega, Hf.out.sq, by have := Hf.out.tot; simpa using this, Hb3.out, Keep.refl _⟩
      case round =>
        obtain ⟨k, u, z, hk, rfl, rfl, rfl, hz0, hz1, hu0, hu1, hS, hT, hd, hkp⟩ := hrel
        have HS := Lib.hid hS
        have HT := Lib.hid hT
        have Hd := Lib.hid hd
        have Hkp := Lib.hid hkp
        clear hS hT hd hkp
        by_cases hlt : k < n
        · obtain ⟨xs, hx, hxd, hxl, hxb⟩ := tab_row Hf.out.tab hlt
          obtain ⟨ad', a, c', e', _, _, hca, hia⟩ := (Hr3.out.keep Hkp.out) k xs hx
          obtain rfl : ad = ad' := by injection e'
          have hsm := calls_v (lsum_c a c' xs wr hia (by omega) (fun v hv => by have := hxb v hv; omega)) (congrArg (Value.int .i64) (Hf.out.row xs (List.mem_of_getElem? hx)))
          rw [hxl] at hsm hca
          have HS1 : Hid (sqT (t.drop (k + 1)) (sqL xs z) = V) := Lib.hid (by have := HS.out; rwa [drop_of hx, sqT] at this)
          have HT1 : Hid (u + xs.sum + ((t.drop (k + 1)).map List.sum).sum = N) := Lib.hid (by have := HT.out; rw [drop_of hx, List.map_cons, List.sum_cons] at this; omega)
          have en : ((n : Int) != (n : Int)) = false := by simp
          have em : ((M : Int) != (M : Int)) = false := by simp
          have Hx := Lib.hid hx
          have Hxl := Lib.hid hxl
          have Hxb := Lib.hid hxb
          have Hsm := Lib.hid hsm
          have Hxd := Lib.hid hxd
          clear hx hxl hxb hsm hxd
          clear e' HS HT hia
          go_wp2_with fail
          refine (Hsm.out).mono ?_
          rintro e w4 ⟨rfl, hq⟩
          have Hd4 := Lib.hid (Hd.out.trans (hq.below _))
          have Hk4 := Lib.hid (Hkp.out.trans hq.keep)
          clear hq hca en em Hsm Hd Hkp wr
          go_wp2
          go_loopw [10, 8, 7] (fun i uu zz wr => ∃ (j : Nat) (u z : Int), j ≤ n ∧ i = .int .i64 j ∧ uu = .int .i64 u ∧ zz = .int .i64 z ∧ 0 ≤ z ∧ z ≤ 1296000 * (k : Int) + 129600 * (j : Int) ∧ 0 ≤ u ∧ u ≤ 3600 * (k : Int) + 360 * (j : Int) ∧ sqT (t.drop (k + 1)) (sqL (xs.drop j) z) = V ∧ u + (xs.drop j).sum + ((t.drop (k + 1)).map List.sum).sum = N ∧ Below w.heap.size w wr ∧ Keep w3 wr) (fun i _ _ _ => n - (intOf i).toNat)
          case atStart => exact ⟨0, u, z, Nat.zero_le _, rfl, rfl, rfl, by omega, by omega, by omega, by omega, HS1.out, HT1.out, Hd4.out, Hk4.out⟩
          case round =>
            clear HS1 HT1 hz0 hz1 hu0 hu1 Hd4 Hk4
            obtain ⟨j, u, z, hj, rfl, rfl, rfl, hz0, hz1, hu0, hu1, hS, hT, hd, hkp⟩ := hrel
            have HS := Lib.hid hS
            have HT := Lib.hid hT
            have Hd := Lib.hid hd
            have Hkp := Lib.hid hkp
            clear hS hT hd hkp
            by_cases hlt2 : j < n
            · obtain ⟨v, hv⟩ := some_of (l := xs) (k := j) (by rw [Hxl.out]; exact hlt2)
              obtain ⟨hv0, hv1⟩ := Hxb.out v (List.mem_of_getElem? hv)
              obtain ⟨ad', a, c', e', _, _, hca, hia⟩ := (Hr3.out.keep Hkp.out) k xs Hx.out
              obtain rfl : ad = ad' := by injection e'
              obtain ⟨bd, rfl, hcv⟩ := hia j v hv
              rw [Hxl.out] at hca
              have hfv : followsF n plan (k : Int) (j : Int) = v := by rw [Hf.out.fol k j hlt hlt2, Hxd.out, List.getD_eq_getElem?_getD, hv]; rfl
              have hfc : ∀ W, Keep w3 W → Calls Try.prog 22 #[.int .i64 (n : Int), .slice B M d, .int .i64 (k : Int), .int .i64 (j : Int)] W (Gives W (.int .i64 v)) := fun W hW => by
                have := gives_v (iFollowsIn_c n B d plan k j W (Hp3.out.keep hW) hm20) (congrArg (Value.int .i64) hfv)
                rwa [HM.out] at this
              have HS1 : Hid (sqT (t.drop (k + 1)) (sqL (xs.drop (j + 1)) (z + v * v)) = V) := Lib.hid (by have := HS.out; rwa [drop_of hv, sqL] at this)
              have HT1 : Hid (u + v + (xs.drop (j + 1)).sum + ((t.drop (k + 1)).map List.sum).sum = N) := Lib.hid (by have := HT.out; rw [drop_of hv, List.sum_cons] at this; omega)
              obtain ⟨p, hp⟩ : ∃ p, v * v = p := ⟨_, rfl⟩
              obtain ⟨hp0, hp1⟩ := sq_le hv0 hv1
              rw [hp] at hp0 hp1 HS1
              have e1 : IntKind.i64.wrap (v * v) = p := by rw [hp]; exact IntWalk.i64_in _ (by omega)
              have e2 : IntKind.i64.wrap (z + p) = z + p := IntWalk.i64_in _ (by omega)
              have e3 : IntKind.i64.wrap (u + v) = u + v := IntWalk.i64_in _ (by omega)
              have ev : (v != v) = false := by simp
              have hki : (k : Int) < (n : Int) := by omega
              have hji : (j : Int) < (n : Int) := by omega
              have Hv := Lib.hid hv
              have Hp := Lib.hid hp
              have Hfv := Lib.hid hfv
              have Hfc := Lib.hid hfc
              clear hv hp hfv hfc
              clear HS HT hia e'
              go_wp2
              go_quiet (fail)
              go_wp2
              have c0 : ∀ x : Past (wr.drewN nq), x.now.cell? (ad.add k) = _ := Past.cell hca
              have c1 : ∀ x : Past (wr.drewN nq), x.now.cell? (bd.add j) = _ := Past.cell hcv
              refine wp_region_past (by kernel_rfl) (by kernel_rfl) ?_
              repeat (go_big_quiet_step ((go_at_call 22; exact past_gives (Hfc.out _ ((Hkp.out.trans (Keep.drewN _ _)).trans (Past.keep _))))))
              refine wpQuiet_nil ?_
              intro wx hwx
              obtain ⟨⟨wy, hbx⟩, hw⟩ := hwx
              change wx = wy at hw
              subst hw
              have Hbx := Lib.hid ((below_drewN wr.heap.size wr nq).trans (hbx.mono (Nat.le_refl _)))
              clear hbx c0 c1 hca hcv
              go_wp2
              go_roundw
              case rel => exact ⟨j + 1, u + v, z + p, by omega, by go_num, by go_num, by go_num, by omega, by omega, by omega, by omega, HS1.out, HT1.out, Hd.out.trans (Hbx.out.mono Hd.out.size), Hkp.out.trans (keep_of_below Hbx.out)⟩
              case measure => simp [intOf]; omega
            · obtain rfl : j = n := by omega
              have HS1 : Hid (sqT (t.drop (k + 1)) z = V) := Lib.hid (by have := HS.out; rwa [drop_end (l := xs) (by rw [Hxl.out]; exact Nat.le_refl _), sqL] at this)
              have HT1 : Hid (u + ((t.drop (k + 1)).map List.sum).sum = N) := Lib.hid (by have := HT.out; rw [drop_end (l := xs) (by rw [Hxl.out]; exact Nat.le_refl _), List.sum_nil] at this; omega)
              go_wp2
              go_roundw
              case rel => exact ⟨k + 1, u, z, by omega, by go_num, rfl, rfl, by omega, by omega, by omega, by omega, HS1.out, HT1.out, Hd.out, Hkp.out⟩
              case measure => simp [intOf]; omega
        · obtain rfl : n = k := by omega
          have HV2 : Hid (V = z) := Lib.hid (by have := HS.out; rw [drop_end (by rw [Hf.out.tab.len]; exact Nat.le_refl _), sqT] at this; exact this.symm)
          have HN2 : Hid (N = u) := Lib.hid (by have := HT.out; rw [drop_end (by rw [Hf.out.tab.len]; exact Nat.le_refl _)] at this; simp at this; omega)
          obtain rfl := HV2.out
          obtain rfl := HN2.out
          clear HS HT hlt HV2 HN2
          have f1 : (V != V) = false := by simp
          have f2 : IntKind.i64.wrap ((n : Int) * (M : Int)) = N := by rw [Hf.out.mul]; exact IntWalk.i64_in _ (by omega)
          have f3 : (N != N) = false := by simp
          have f4 : IntKind.i64.wrap ((n : Int) - 1) = (n : Int) - 1 := IntWalk.i64_in _ (by omega)
          have f5 : IntKind.i64.wrap ((n : Int) * ((n : Int) - 1)) = Q := by rw [Hf.out.two]; exact IntWalk.i64_in _ (by omega)
          have Hp4 := Lib.hid (Hp3.out.keep Hkp.out)
          obtain ⟨rr, hrr⟩ : ∃ rr, rrOk n plan 1 = rr := ⟨_, rfl⟩
          have hQV : rr = true → ¬ V < Q := fun h => by have := Hf.out.rr (hrr.trans h); omega
          have hic := gives_v (iIsRoundRobin_c n B d plan 1 wr Hp4.out hm20) (congrArg Value.bool hrr)
          rw [HM.out] at hic
          have hrq : rr = false ∨ (rr = true ∧ ¬ V < Q) := by cases rr <;> simp_all
          have Hrr := Lib.hid hrr
          have Hic := Lib.hid hic
          clear hrr hic
          clear hz0 hz1 hu0 hu1 hk hQV
          rcases hrq with rfl | ⟨rfl, hVQ⟩
          · go_wp2_with fail
            refine (Hic.out).mono ?_
            rintro e w5 ⟨rfl, hb5⟩
            have Hb5 := Lib.hid (Hd.out.trans (hb5.mono Hd.out.size))
            have Hp5 := Lib.hid (Hp4.out.keep (keep_of_below hb5))
            clear hb5 Hd Hp4 Hkp Hic f1 f2 f3 f4 f5 hQ0 hQ1 hN0 hN1 Hr3 Hp3 Hb3
            have hal : Below w5.heap.size w5 (w5.alloc (.cells #[.int .i64 2, .int .i64 4, .int .i64 8] 3)) := (Below.refl _ _).alloc (Nat.le_refl _) _
            have Hb5' := Lib.hid (Hb5.out.trans (hal.mono Hb5.out.size))
            have Hp5' := Lib.hid (Hp5.out.keep (keep_of_below hal))
            have hmx := Hmn.out _ Hb5'.out
            have Hmx := Lib.hid hmx
            have Hal := Lib.hid hal
            clear hmx hal
            go_wp2_with fail
            refine (Hmx.out).mono ?_
            rintro e w6 ⟨x, rfl, hx0, hx1, hb6⟩
            obtain ⟨x, rfl⟩ := Int.eq_ofNat_of_zero_le hx0
            have Hb6 := Lib.hid (Hb5'.out.trans (hb6.mono Hb5'.out.size))
            have Hp6 := Lib.hid (Hp5'.out.keep (keep_of_below hb6))
            obtain ⟨r, hr⟩ : ∃ r, x % 3 = r := ⟨_, rfl⟩
            have hr3 : r < 3 := by rw [← hr]; exact Nat.mod_lt _ (by decide)
            have hr3i : (r : Int) < 3 := by omega
            have g1 : (x : Int).tmod 3 = (r : Int) := by rw [Int.tmod_eq_emod_of_nonneg (by omega), ← hr]; rfl
            obtain ⟨q, hq, hcq0⟩ := lit3 w5 3 r hr3
            have hcq := keep_of_below hb6 _ _ hcq0
            clear hcq0 hb6 Hb5 Hb5' Hp5 Hp5' hr hx0 hx1 Hal
            obtain ⟨k1, k2, k3, k4, k5, k6, k7, k8⟩ := field_facts hq
            have hq8 : 2 ≤ q ∧ q ≤ 8 := by rcases hq with h | h | h <;> omega
            obtain ⟨hq2, hq8⟩ := hq8
            have hFc := fun W => iFieldPlan_c (q : Int) W ⟨by omega, by omega⟩
            have hXc := fun W => iXorPlan_c (q : Int) W ⟨by omega, by omega⟩
            obtain ⟨F, hF⟩ : ∃ F, fieldOf (q : Int) = F := ⟨_, rfl⟩
            obtain ⟨X, hX⟩ : ∃ X, xorOf (q : Int) = X := ⟨_, rfl⟩
            rw [hF] at k2 k4 k5 k7
            rw [hX] at k3 k6 k8
            rw [k1] at hFc hXc
            rw [hF] at hFc
            rw [hX] at hXc
            obtain ⟨vF, hvF⟩ : ∃ v, valF (q : Int) F = v := ⟨_, rfl⟩
            obtain ⟨vX, hvX⟩ : ∃ v, valF (q : Int) X = v := ⟨_, rfl⟩
            rw [hvF] at k5
            rw [hvX] at k6
            have g2 : IntKind.i64.wrap ((q : Int) - 1) = (q : Int) - 1 := IntWalk.i64_in _ (by omega)
            have hqq : 0 ≤ (q : Int) * ((q : Int) - 1) ∧ (q : Int) * ((q : Int) - 1) ≤ 56 := by rcases hq with rfl | rfl | rfl <;> decide
            have g3 : IntKind.i64.wrap ((q : Int) * ((q : Int) - 1)) = vF := by rw [IntWalk.i64_in _ (by omega)]; exact k5.symm
            have g4 : (vF != vF) = false := by simp
            have g5 : ¬ vX < vF := by omega
            clear k5 k6 hqq hF hX k1 hq
            have HFc := Lib.hid hFc
            have HXc := Lib.hid hXc
            have K2 := Lib.hid k2
            have K3 := Lib.hid k3
            have K4 := Lib.hid k4
            have HvF := Lib.hid hvF
            have HvX := Lib.hid hvX
            clear hFc hXc k2 k3 k4 hvF hvX
            go_wp2_with fail
            refine (HFc.out _).mono ?_
            rintro e w7 ⟨C7, d7, rfl, ho7, hb7⟩
            have Hf7 := Lib.hid ho7.rows
            have Hb7 := Lib.hid (Hb6.out.trans (hb7.mono Hb6.out.size))
            have Hp7 := Lib.hid (Hp6.out.keep (keep_of_below hb7))
            clear ho7 hb7 hcq Hb6 Hp6
            go_wp2_with fail
            refine (HXc.out _).mono ?_
            rintro e w8 ⟨C8, d8, rfl, ho8, hb8⟩
            have Hx8 := Lib.hid ho8.rows
            have Hf8 := Lib.hid (Hf7.out.keep (keep_of_below hb8))
            have Hb8 := Lib.hid (Hb7.out.trans (hb8.mono Hb7.out.size))
            have Hp8 := Lib.hid (Hp7.out.keep (keep_of_below hb8))
            clear ho8 hb8 Hf7 Hb7 Hp7
            go_wp2_with fail
            refine (gives_v (iIsRoundRobin_c (q : Int) C7 d7 F 1 w8 Hf8.out (by omega)) (congrArg Value.bool K2.out)).mono ?_
            rintro e w9 ⟨rfl, hb9⟩
            have Hx9 := Lib.hid (Hx8.out.keep (keep_of_below hb9))
            have Hf9 := Lib.hid (Hf8.out.keep (keep_of_below hb9))
            have Hb9 := Lib.hid (Hb8.out.trans (hb9.mono Hb8.out.size))
            have Hp9 := Lib.hid (Hp8.out.keep (keep_of_below hb9))
            clear hb9 Hf8 Hb8 Hp8 Hx8
            go_wp2_with fail
            refine (gives_v (iIsRoundRobin_c (q : Int) C8 d8 X 1 w9 Hx9.out (by omega)) (congrArg Value.bool K3.out)).mono ?_
            rintro e w10 ⟨rfl, hb10⟩
            have Hx10 := Lib.hid (Hx9.out.keep (keep_of_below hb10))
            have Hf10 := Lib.hid (Hf9.out.keep (keep_of_below hb10))
            have Hb10 := Lib.hid (Hb9.out.trans (hb10.mono Hb9.out.size))
            have Hp10 := Lib.hid (Hp9.out.keep (keep_of_below hb10))
            clear hb10 Hf9 Hb9 Hp9 Hx9
            go_wp2_with fail
            refine (gives_v (iIsBalancedPlan_c (q : Int) C7 d7 F w10 Hf10.out (by omega)) (congrArg Value.bool K4.out)).mono ?_
            rintro e w11 ⟨rfl, hb11⟩
            have Hx11 := Lib.hid (Hx10.out.keep (keep_of_below hb11))
            have Hf11 := Lib.hid (Hf10.out.keep (keep_of_below hb11))
            have Hb11 := Lib.hid (Hb10.out.trans (hb11.mono Hb10.out.size))
            have Hp11 := Lib.hid (Hp10.out.keep (keep_of_below hb11))
            clear hb11 Hf10 Hb10 Hp10 Hx10
            go_wp2_with fail
            refine (gives_v (iCarryValue_c (q : Int) C7 d7 F w11 Hf11.out (by omega)) (congrArg (Value.int .i64) HvF.out)).mono ?_
            rintro e w12 ⟨rfl, hb12⟩
            have Hx12 := Lib.hid (Hx11.out.keep (keep_of_below hb12))
            have Hb12 := Lib.hid (Hb11.out.trans (hb12.mono Hb11.out.size))
            have Hp12 := Lib.hid (Hp11.out.keep (keep_of_below hb12))
            clear hb12 Hf11 Hb11 Hp11 Hx11
            go_wp2_with fail
            refine (gives_v (iCarryValue_c (q : Int) C8 d8 X w12 Hx12.out (by omega)) (congrArg (Value.int .i64) HvX.out)).mono ?_
            rintro e w13 ⟨rfl, hb13⟩
            have Hb13 := Lib.hid (Hb12.out.trans (hb13.mono Hb12.out.size))
            have Hp13 := Lib.hid (Hp12.out.keep (keep_of_below hb13))
            clear hb13 Hx12 Hb12 Hp12
            by_cases h6 : (6 : Int) < (n : Int)
            · go_wp2
              go_ret
              exact ⟨rfl, Hb13.out⟩
            · by_cases h7 : (7 : Int) < (M : Int)
              · go_wp2
                go_ret
                exact ⟨rfl, Hb13.out⟩
              · obtain ⟨l1, l2, l3⟩ := Hlf.out
                obtain ⟨Lp, hLp⟩ : ∃ Lp, leastF (n : Int) plan = Lp := ⟨_, rfl⟩
                have hlc := iLeastCarry_c (n : Int) B d plan w13 Hp13.out hm20
                rw [HM.out, hLp] at hlc
                rw [hLp] at l1 l2 l3
                obtain ⟨vL, hvL⟩ : ∃ v, valF (n : Int) Lp = v := ⟨_, rfl⟩
                rw [hvL] at l3
                have hlc := GivesII_len l2 hlc
                have hMM : ((M : Int) == (M : Int)) = true := by simp
                have Hlc := Lib.hid hlc
                have L1 := Lib.hid l1
                have HvL := Lib.hid hvL
                have L2 := Lib.hid l2
                have HLp := Lib.hid hLp
                clear hlc l1 hvL l2 hLp
                go_wp2_with fail
                refine (Hlc.out).mono ?_
                rintro e w14 ⟨C14, d14, rfl, ho14, hb14⟩
                have Hl14 := Lib.hid ho14
                have Hb14 := Lib.hid (Hb13.out.trans (hb14.mono Hb13.out.size))
                clear hb14 ho14
                have hpo := calls_v (iPlanOk_c (n : Int) C14 d14 Lp w14 Hl14.out (by rw [L2.out]; omega)) (congrArg Value.bool L1.out)
                rw [L2.out] at hpo
                have Hpo := Lib.hid hpo
                clear hpo
                go_wp2_with fail
                refine (Hpo.out).mono ?_
                rintro e w15 ⟨rfl, hq15⟩
                have hvc := gives_v (iCarryValue_c (n : Int) C14 d14 Lp w15 (Hl14.out.keep hq15.keep) (by rw [L2.out]; omega)) (congrArg (Value.int .i64) HvL.out)
                rw [L2.out] at hvc
                have Hb15 := Lib.hid (Hb14.out.trans (hq15.below _))
                clear hq15
                have Hvc := Lib.hid hvc
                clear hvc
                go_wp2_with fail
                refine (Hvc.out).mono ?_
                rintro e w16 ⟨rfl, hb16⟩
                have Hb16 := Lib.hid (Hb15.out.trans (hb16.mono Hb15.out.size))
                clear hb16
                go_wp2
                go_ret
                exact ⟨ret_bool (by simp), Hb16.out⟩
          · go_wp2_with fail
            refine (Hic.out).mono ?_
            rintro e w5 ⟨rfl, hb5⟩
            have Hb5 := Lib.hid (Hd.out.trans (hb5.mono Hd.out.size))
            have Hp5 := Lib.hid (Hp4.out.keep (keep_of_below hb5))
            clear hb5 Hd Hp4 Hkp Hic f1 f2 f3 hN0 hN1 Hr3 Hp3 Hb3
            have hal : Below w5.heap.size w5 (w5.alloc (.cells #[.int .i64 2, .int .i64 4, .int .i64 8] 3)) := (Below.refl _ _).alloc (Nat.le_refl _) _
            have Hb5' := Lib.hid (Hb5.out.trans (hal.mono Hb5.out.size))
            have Hp5' := Lib.hid (Hp5.out.keep (keep_of_below hal))
            have hmx := Hmn.out _ Hb5'.out
            have Hmx := Lib.hid hmx
            have Hal := Lib.hid hal
            clear hmx hal
            go_wp2_with fail
            refine (Hmx.out).mono ?_
            rintro e w6 ⟨x, rfl, hx0, hx1, hb6⟩
            obtain ⟨x, rfl⟩ := Int.eq_ofNat_of_zero_le hx0
            have Hb6 := Lib.hid (Hb5'.out.trans (hb6.mono Hb5'.out.size))
            have Hp6 := Lib.hid (Hp5'.out.keep (keep_of_below hb6))
            obtain ⟨r, hr⟩ : ∃ r, x % 3 = r := ⟨_, rfl⟩
            have hr3 : r < 3 := by rw [← hr]; exact Nat.mod_lt _ (by decide)
            have hr3i : (r : Int) < 3 := by omega
            have g1 : (x : Int).tmod 3 = (r : Int) := by rw [Int.tmod_eq_emod_of_nonneg (by omega), ← hr]; rfl
            obtain ⟨q, hq, hcq0⟩ := lit3 w5 3 r hr3
            have hcq := keep_of_below hb6 _ _ hcq0
            clear hcq0 hb6 Hb5 Hb5' Hp5 Hp5' hr hx0 hx1 Hal
            obtain ⟨k1, k2, k3, k4, k5, k6, k7, k8⟩ := field_facts hq
            have hq8 : 2 ≤ q ∧ q ≤ 8 := by rcases hq with h | h | h <;> omega
            obtain ⟨hq2, hq8⟩ := hq8
            have hFc := fun W => iFieldPlan_c (q : Int) W ⟨by omega, by omega⟩
            have hXc := fun W => iXorPlan_c (q : Int) W ⟨by omega, by omega⟩
            obtain ⟨F, hF⟩ : ∃ F, fieldOf (q : Int) = F := ⟨_, rfl⟩
            obtain ⟨X, hX⟩ : ∃ X, xorOf (q : Int) = X := ⟨_, rfl⟩
            rw [hF] at k2 k4 k5 k7
            rw [hX] at k3 k6 k8
            rw [k1] at hFc hXc
            rw [hF] at hFc
            rw [hX] at hXc
            obtain ⟨vF, hvF⟩ : ∃ v, valF (q : Int) F = v := ⟨_, rfl⟩
            obtain ⟨vX, hvX⟩ : ∃ v, valF (q : Int) X = v := ⟨_, rfl⟩
            rw [hvF] at k5
            rw [hvX] at k6
            have g2 : IntKind.i64.wrap ((q : Int) - 1) = (q : Int) - 1 := IntWalk.i64_in _ (by omega)
            have hqq : 0 ≤ (q : Int) * ((q : Int) - 1) ∧ (q : Int) * ((q : Int) - 1) ≤ 56 := by rcases hq with rfl | rfl | rfl <;> decide
            have g3 : IntKind.i64.wrap ((q : Int) * ((q : Int) - 1)) = vF := by rw [IntWalk.i64_in _ (by omega)]; exact k5.symm
            have g4 : (vF != vF) = false := by simp
            have g5 : ¬ vX < vF := by omega
            clear k5 k6 hqq hF hX k1 hq
            have HFc := Lib.hid hFc
            have HXc := Lib.hid hXc
            have K2 := Lib.hid k2
            have K3 := Lib.hid k3
            have K4 := Lib.hid k4
            have HvF := Lib.hid hvF
            have HvX := Lib.hid hvX
            clear hFc hXc k2 k3 k4 hvF hvX
            go_wp2_with fail
            refine (HFc.out _).mono ?_
            rintro e w7 ⟨C7, d7, rfl, ho7, hb7⟩
            have Hf7 := Lib.hid ho7.rows
            have Hb7 := Lib.hid (Hb6.out.trans (hb7.mono Hb6.out.size))
            have Hp7 := Lib.hid (Hp6.out.keep (keep_of_below hb7))
            clear ho7 hb7 hcq Hb6 Hp6
            go_wp2_with fail
            refine (HXc.out _).mono ?_
            rintro e w8 ⟨C8, d8, rfl, ho8, hb8⟩
            have Hx8 := Lib.hid ho8.rows
            have Hf8 := Lib.hid (Hf7.out.keep (keep_of_below hb8))
            have Hb8 := Lib.hid (Hb7.out.trans (hb8.mono Hb7.out.size))
            have Hp8 := Lib.hid (Hp7.out.keep (keep_of_below hb8))
            clear ho8 hb8 Hf7 Hb7 Hp7
            go_wp2_with fail
            refine (gives_v (iIsRoundRobin_c (q : Int) C7 d7 F 1 w8 Hf8.out (by omega)) (congrArg Value.bool K2.out)).mono ?_
            rintro e w9 ⟨rfl, hb9⟩
            have Hx9 := Lib.hid (Hx8.out.keep (keep_of_below hb9))
            have Hf9 := Lib.hid (Hf8.out.keep (keep_of_below hb9))
            have Hb9 := Lib.hid (Hb8.out.trans (hb9.mono Hb8.out.size))
            have Hp9 := Lib.hid (Hp8.out.keep (keep_of_below hb9))
            clear hb9 Hf8 Hb8 Hp8 Hx8
            go_wp2_with fail
            refine (gives_v (iIsRoundRobin_c (q : Int) C8 d8 X 1 w9 Hx9.out (by omega)) (congrArg Value.bool K3.out)).mono ?_
            rintro e w10 ⟨rfl, hb10⟩
            have Hx10 := Lib.hid (Hx9.out.keep (keep_of_below hb10))
            have Hf10 := Lib.hid (Hf9.out.keep (keep_of_below hb10))
            have Hb10 := Lib.hid (Hb9.out.trans (hb10.mono Hb9.out.size))
            have Hp10 := Lib.hid (Hp9.out.keep (keep_of_below hb10))
            clear hb10 Hf9 Hb9 Hp9 Hx9
            go_wp2_with fail
            refine (gives_v (iIsBalancedPlan_c (q : Int) C7 d7 F w10 Hf10.out (by omega)) (congrArg Value.bool K4.out)).mono ?_
            rintro e w11 ⟨rfl, hb11⟩
            have Hx11 := Lib.hid (Hx10.out.keep (keep_of_below hb11))
            have Hf11 := Lib.hid (Hf10.out.keep (keep_of_below hb11))
            have Hb11 := Lib.hid (Hb10.out.trans (hb11.mono Hb10.out.size))
            have Hp11 := Lib.hid (Hp10.out.keep (keep_of_below hb11))
            clear hb11 Hf10 Hb10 Hp10 Hx10
            go_wp2_with fail
            refine (gives_v (iCarryValue_c (q : Int) C7 d7 F w11 Hf11.out (by omega)) (congrArg (Value.int .i64) HvF.out)).mono ?_
            rintro e w12 ⟨rfl, hb12⟩
            have Hx12 := Lib.hid (Hx11.out.keep (keep_of_below hb12))
            have Hb12 := Lib.hid (Hb11.out.trans (hb12.mono Hb11.out.size))
            have Hp12 := Lib.hid (Hp11.out.keep (keep_of_below hb12))
            clear hb12 Hf11 Hb11 Hp11 Hx11
            go_wp2_with fail
            refine (gives_v (iCarryValue_c (q : Int) C8 d8 X w12 Hx12.out (by omega)) (congrArg (Value.int .i64) HvX.out)).mono ?_
            rintro e w13 ⟨rfl, hb13⟩
            have Hb13 := Lib.hid (Hb12.out.trans (hb13.mono Hb12.out.size))
            have Hp13 := Lib.hid (Hp12.out.keep (keep_of_below hb13))
            clear hb13 Hx12 Hb12 Hp12
            by_cases h6 : (6 : Int) < (n : Int)
            · go_wp2
              go_ret
              exact ⟨rfl, Hb13.out⟩
            · by_cases h7 : (7 : Int) < (M : Int)
              · go_wp2
                go_ret
                exact ⟨rfl, Hb13.out⟩
              · obtain ⟨l1, l2, l3⟩ := Hlf.out
                obtain ⟨Lp, hLp⟩ : ∃ Lp, leastF (n : Int) plan = Lp := ⟨_, rfl⟩
                have hlc := iLeastCarry_c (n : Int) B d plan w13 Hp13.out hm20
                rw [HM.out, hLp] at hlc
                rw [hLp] at l1 l2 l3
                obtain ⟨vL, hvL⟩ : ∃ v, valF (n : Int) Lp = v := ⟨_, rfl⟩
                rw [hvL] at l3
                have hlc := GivesII_len l2 hlc
                have hMM : ((M : Int) == (M : Int)) = true := by simp
                have Hlc := Lib.hid hlc
                have L1 := Lib.hid l1
                have HvL := Lib.hid hvL
                have L2 := Lib.hid l2
                have HLp := Lib.hid hLp
                clear hlc l1 hvL l2 hLp
                go_wp2_with fail
                refine (Hlc.out).mono ?_
                rintro e w14 ⟨C14, d14, rfl, ho14, hb14⟩
                have Hl14 := Lib.hid ho14
                have Hb14 := Lib.hid (Hb13.out.trans (hb14.mono Hb13.out.size))
                clear hb14 ho14
                have hpo := calls_v (iPlanOk_c (n : Int) C14 d14 Lp w14 Hl14.out (by rw [L2.out]; omega)) (congrArg Value.bool L1.out)
                rw [L2.out] at hpo
                have Hpo := Lib.hid hpo
                clear hpo
                go_wp2_with fail
                refine (Hpo.out).mono ?_
                rintro e w15 ⟨rfl, hq15⟩
                have hvc := gives_v (iCarryValue_c (n : Int) C14 d14 Lp w15 (Hl14.out.keep hq15.keep) (by rw [L2.out]; omega)) (congrArg (Value.int .i64) HvL.out)
                rw [L2.out] at hvc
                have Hb15 := Lib.hid (Hb14.out.trans (hq15.below _))
                clear hq15
                have Hvc := Lib.hid hvc
                clear hvc
                go_wp2_with fail
                refine (Hvc.out).mono ?_
                rintro e w16 ⟨rfl, hb16⟩
                have Hb16 := Lib.hid (Hb15.out.trans (hb16.mono Hb15.out.size))
                clear hb16
                go_wp2
                go_ret
                exact ⟨ret_bool (by simp), Hb16.out⟩

end Go.Proofs.Ythbpeolcmlkneaa
