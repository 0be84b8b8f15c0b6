/- Contracts: the table of a league (program): its comparison, and the sort. -/
import Derived.Test.YtehlijpjcjegcaaTabS
import Derived.Test.YtehlijpjcjegcaaTail
namespace Go.Proofs.Ytehlijpjcjegcaa
set_option linter.unusedSimpArgs false
set_option linter.unusedVariables false
open Go.RowKit

set_option maxHeartbeats 1000000 in
theorem cmpOr_c (A : Option Addr) (c : Nat) (x y z : Int) (w : World) (ha : Ints w A [x, y, z]) : Calls Try.prog 75 #[.slice A 3 c] w (Quiet w (.int .i64 (or3 x y z))) := by
  generalize hR : or3 x y z = R
  have HR := Lib.hid hR
  clear hR
  have Ha := Lib.hid ha
  clear ha
  go_enter Try.func75, Try.ntmps75
  go_wp2
  go_loopw [8] (fun i wr => ∃ k : Nat, k ≤ 3 ∧ i = .int .i64 k ∧ (k = 0 ∨ (k = 1 ∧ x = 0) ∨ (k = 2 ∧ x = 0 ∧ y = 0) ∨ (k = 3 ∧ x = 0 ∧ y = 0 ∧ z = 0)) ∧ Dr w wr) (fun i _ => 3 - (intOf i).toNat)
  case atStart => exact ⟨0, Nat.zero_le _, rfl, .inl rfl, Dr.refl _⟩
  case round =>
    obtain ⟨k, hk, rfl, hc, hd⟩ := hrel
    by_cases hlt : k < 3
    · have hki : (k : Int) < 3 := by omega
      obtain ⟨v, hv⟩ := some_of (l := [x, y, z]) (k := k) (by simpa using hlt)
      obtain ⟨ad, rfl, hcv⟩ := (Ha.out.keep hd.keep) k v hv
      have hval : (k = 0 ∧ v = x) ∨ (k = 1 ∧ v = y) ∨ (k = 2 ∧ v = z) := by
        have : k = 0 ∨ k = 1 ∨ k = 2 := by omega
        rcases this with rfl | rfl | rfl <;> simp at hv <;> simp [hv]
      by_cases hv0 : v = 0
      · have e1 : (v != 0) = false := by simp [hv0]
        have hn : (k + 1 = 0 ∨ (k + 1 = 1 ∧ x = 0) ∨ (k + 1 = 2 ∧ x = 0 ∧ y = 0) ∨ (k + 1 = 3 ∧ x = 0 ∧ y = 0 ∧ z = 0)) := by omega
        have Hn := Lib.hid hn
        have Hv := Lib.hid hv
        have Hv0 := Lib.hid hv0
        have Hval := Lib.hid hval
        have Hc := Lib.hid hc
        have Hd := Lib.hid hd
        clear hn hv hv0 hval hc hd
        go_wp2
        go_roundw
        case rel => exact ⟨k + 1, by omega, by go_num, Hn.out, Hd.out⟩
        case measure => simp [intOf]; omega
      · have e1 : (v != 0) = true := by simpa using hv0
        have hRv : v = R := by
          rw [← HR.out, or3]
          rcases hval with ⟨h, e⟩ | ⟨h, e⟩ | ⟨h, e⟩ <;> subst e
          · rw [if_neg hv0]
          · rw [if_pos (by omega), if_neg hv0]
          · rw [if_pos (by omega), if_pos (by omega)]
        have Hv := Lib.hid hv
        have Hv0 := Lib.hid hv0
        have Hval := Lib.hid hval
        have Hc := Lib.hid hc
        have Hd := Lib.hid hd
        have HRv := Lib.hid hRv
        clear hv hv0 hval hc hd hRv
        go_wp2
        go_ret
        exact ⟨ret_int HRv.out, Hd.out⟩
    · have hRv : 0 = R := by rw [← HR.out, or3, if_pos (by omega), if_pos (by omega)]; omega
      have Hc := Lib.hid hc
      have Hd := Lib.hid hd
      have HRv := Lib.hid hRv
      clear hc hd hRv
      go_wp2
      go_ret
      exact ⟨ret_int HRv.out, Hd.out⟩
theorem own_new3 (T : TypeId) (w : World) (x y z : Value) : Own T w.heap.size (w.heap.size + 1) (w.alloc (.cells #[x, y, z] T)) (some ⟨w.heap.size, 0, none⟩) 3 [x, y, z] :=
  ⟨by simp, by unfold maxLen; omega, .inr ⟨w.heap.size, _, rfl, Nat.le_refl _, Nat.lt_succ_self _, heap_alloc_new w _, rfl, rfl⟩⟩

set_option maxRecDepth 100000 in
set_option maxHeartbeats 4000000 in
theorem tableOf1_c (n a b bx bp : Nat) (A PA : Option Addr) (m c pc : Nat) (rs : List Res) (W : World) (hok : leagueOk n rs = true) (ha : a < n) (hb : b < n) (hm : rs.length = m)
    (x0 : W.cell? ⟨bx, 0, none⟩ = some (.int .i64 (n : Int))) (x1 : W.cell? ⟨bx, 1, none⟩ = some (.slice A m c)) (y0 : W.cell? ⟨bp, 0, none⟩ = some (.slice PA n pc)) (hg : Games W A rs) (hp : Ints W PA (pointsF n rs)) :
    Calls Try.prog 90 #[.int .i64 (a : Int), .int .i64 (b : Int), .pointer (some ⟨bx, 0, none⟩), .pointer (some ⟨bp, 0, none⟩)] W (Gives W (.int .i64 (cmpT n rs a b))) := by
  have hL := league_of hok
  have hgc := fun (k : Int) W (h : Games W A rs) => goals_c n A c rs k W h hok
  rw [hm] at hgc
  unfold lgv at hgc
  have hpl := pointsF_len hL
  obtain ⟨pa, hpa⟩ := some_of (l := pointsF n rs) (k := a) (by omega)
  obtain ⟨pb, hpb⟩ := some_of (l := pointsF n rs) (k := b) (by omega)
  have ga : (pointsF n rs).getD a 0 = pa := by rw [List.getD_eq_getElem?_getD, hpa]; rfl
  have gb : (pointsF n rs).getD b 0 = pb := by rw [List.getD_eq_getElem?_getD, hpb]; rfl
  obtain ⟨u0, u1⟩ := points_bd hL a
  obtain ⟨v0, v1⟩ := points_bd hL b
  rw [ga] at u0 u1
  rw [gb] at v0 v1
  obtain ⟨m0, m1, m2, m3⟩ := goals_bd hL (a : Int)
  obtain ⟨k0, k1, k2, k3⟩ := goals_bd hL (b : Int)
  have hcm : cmpT n rs a b = or3 (pb - pa) ((madeF rs (b : Int) - agstF rs (b : Int)) - (madeF rs (a : Int) - agstF rs (a : Int))) (madeF rs (b : Int) - madeF rs (a : Int)) := by rw [cmpT, ga, gb]
  rw [hcm]
  have hga := hgc (a : Int)
  have hgb := hgc (b : Int)
  generalize madeF rs (a : Int) = ma at *
  generalize agstF rs (a : Int) = aa at *
  generalize madeF rs (b : Int) = mb at *
  generalize agstF rs (b : Int) = ab at *
  have hai : (a : Int) < (n : Int) := by omega
  have hbi : (b : Int) < (n : Int) := by omega
  have e1 : IntKind.i64.wrap (pb - pa) = pb - pa := IntWalk.i64_in _ (by omega)
  have e2 : IntKind.i64.wrap (mb - ab) = mb - ab := IntWalk.i64_in _ (by omega)
  have e3 : IntKind.i64.wrap (ma - aa) = ma - aa := IntWalk.i64_in _ (by omega)
  have e4 : IntKind.i64.wrap ((mb - ab) - (ma - aa)) = (mb - ab) - (ma - aa) := IntWalk.i64_in _ (by omega)
  have e5 : IntKind.i64.wrap (mb - ma) = mb - ma := IntWalk.i64_in _ (by omega)
  clear hgc hcm
  have Hga := Lib.hid hga
  have Hgb := Lib.hid hgb
  have Hpa := Lib.hid hpa
  have Hpb := Lib.hid hpb
  have Ga := Lib.hid ga
  have Gb := Lib.hid gb
  have Hg := Lib.hid hg
  have Hp := Lib.hid hp
  have Hpl := Lib.hid hpl
  have HL := Lib.hid hL
  have Hok := Lib.hid hok
  have Hm := Lib.hid hm
  clear hga hgb hpa hpb ga gb hg hp hpl hL hok hm
  go_enter Try.func90, Try.ntmps90
  go_wp2_with fail
  refine (Hga.out _ Hg.out).mono ?_
  rintro e w1 ⟨rfl, hb1⟩
  have x0' := keep_of_below hb1 _ _ x0
  have x1' := keep_of_below hb1 _ _ x1
  have y0' := keep_of_below hb1 _ _ y0
  have Hb1 := Lib.hid hb1
  clear hb1
  go_wp2_with fail
  refine (Hgb.out _ (Hg.out.keep (keep_of_below Hb1.out))).mono ?_
  rintro e w2 ⟨rfl, hb2⟩
  have y0'' := keep_of_below hb2 _ _ y0'
  have hb2w := Hb1.out.trans (hb2.mono Hb1.out.size)
  obtain ⟨pd, rfl, ca⟩ := (Hp.out.keep (keep_of_below hb2w)) a pa Hpa.out
  obtain ⟨pd2, e, cb⟩ := (Hp.out.keep (keep_of_below hb2w)) b pb Hpb.out
  obtain rfl : pd = pd2 := by injection e
  have f0 : ∀ x : Past w2, x.now.cell? ⟨bp, 0, none⟩ = some (.slice (some pd) n pc) := Past.cell y0''
  have f1 : ∀ x : Past w2, x.now.cell? (pd.add a) = some (.int .i64 pa) := Past.cell ca
  have f2 : ∀ x : Past w2, x.now.cell? (pd.add b) = some (.int .i64 pb) := Past.cell cb
  have Hb2w := Lib.hid hb2w
  clear hb2w
  clear hb2 e ca cb x0 x1 y0 x0' x1' y0' y0''
  go_wp2
  refine wp_region_past_tail 19 (by kernel_rfl) (by kernel_rfl) ?_
  simp only [List.take_succ_cons, List.take_zero, List.drop_succ_cons, List.drop_zero]
  repeat (go_big_quiet_step ((fail)))
  refine wpQuiet_nil ?_
  intro wx hwx
  obtain ⟨⟨wy, hbx⟩, hw⟩ := hwx
  change wx = wy at hw
  subst hw
  have hin : ∀ W : World, Ints (W.alloc (.cells #[.int .i64 (pb - pa), .int .i64 ((mb - ab) - (ma - aa)), .int .i64 (mb - ma)] 3)) (some ⟨W.heap.size, 0, none⟩) [pb - pa, (mb - ab) - (ma - aa), mb - ma] := fun W =>
    Own.ints (T := 3) (lo := W.heap.size) (hi := W.heap.size + 1) (c := 3) (own_new3 3 W (.int .i64 (pb - pa)) (.int .i64 ((mb - ab) - (ma - aa))) (.int .i64 (mb - ma)))
  have Hbx := Lib.hid (Hb2w.out.trans (hbx.mono Hb2w.out.size))
  have Hin := Lib.hid hin
  clear hin
  clear f0 f1 f2 hbx
  go_wp2_with fail
  refine (cmpOr_c _ _ _ _ _ _ (Hin.out _)).mono ?_
  rintro e w8 ⟨rfl, hq⟩
  have Hb8 := Lib.hid ((Hbx.out.alloc Hbx.out.size _).trans (hq.below W.heap.size))
  clear hq
  go_wp2
  go_ret
  exact ⟨rfl, Hb8.out⟩

theorem ints_only {lo hi : Nat} {w w4 W : World} {A : Option Addr} {xs : List Int} (h : Ints w A xs) (hk : Keep w w4) (hz : w.heap.size ≤ lo) (ho : Only lo hi w4 W) : Ints W A xs := fun k u hu => by
  obtain ⟨ad, e, hc⟩ := h k u hu
  have hlt := World.block_lt_of_cell? w _ hc
  exact ⟨ad, e, cell_only ho (hk _ _ hc) (.inl (Nat.lt_of_lt_of_le hlt hz))⟩
set_option maxRecDepth 100000 in
set_option maxHeartbeats 4000000 in
theorem iTableOf_c (n : Int) (A : Option Addr) (c : Nat) (rs : List Res) (w : World) (ha : Games w A rs) (hm : rs.length ≤ 1048576) :
    Calls Try.prog 65 #[lgv n A rs.length c] w fun e w' => ∃ B d, e = .returned (.slice B (tabF n rs).length d) ∧ Own 3 w.heap.size w'.heap.size w' B d ((nums (tabF n rs)).map (.int .i64)) ∧ Below w.heap.size w w' := by
  have hlc := fun W (h : Games W A rs) => iLeagueOk_c n A c rs W h hm
  obtain ⟨b0, b1⟩ := box2 w (.int .i64 n) (.slice A rs.length c) 29
  have hbw : Below w.heap.size w (w.alloc (.cells #[.int .i64 n, .slice A rs.length c] 29)) := (Below.refl _ _).alloc (Nat.le_refl _) _
  have hg0 := ha.keep (keep_of_below hbw)
  unfold lgv at hlc ⊢
  cases h1 : leagueOk n rs
  · have hR2 : tabF n rs = [] := by rw [tabF, if_neg (by rw [h1]; decide)]
    rw [hR2]
    simp only [h1] at hlc
    have Ha := Lib.hid ha
    have Hlc := Lib.hid hlc
    have Hbw := Lib.hid hbw
    have Hg0 := Lib.hid hg0
    have H1 := Lib.hid h1
    have HR2 := Lib.hid hR2
    clear ha hlc hbw hg0 h1 hR2
    go_enter Try.func65, Try.ntmps65
    go_wp2_with fail
    refine (Hlc.out _ Hg0.out).mono ?_
    rintro e w1 ⟨rfl, hb⟩
    go_wp2
    go_ret
    exact ⟨none, 0, rfl, Own.nil .., Hbw.out.trans (hb.mono Hbw.out.size)⟩
  · have hL := league_of h1
    obtain ⟨n, rfl⟩ := Int.eq_ofNat_of_zero_le (show 0 ≤ n by have := hL.two; omega)
    have hn8 : n ≤ 8 := by have := hL.eight; omega
    have hn2 : 2 ≤ n := by have := hL.two; omega
    have hR2 : tabF (n : Int) rs = tableF n rs := by rw [tabF, if_pos h1, Int.toNat_natCast]
    have hRl : (tableF n rs).length = n := insAll_len _ _
    rw [hR2, hRl]
    have hpc := fun W (h : Games W A rs) => points_c n A c rs W h h1
    have hpl := pointsF_len hL
    simp only [h1] at hlc
    unfold lgv at hpc
    obtain ⟨m, hmm⟩ : ∃ m, rs.length = m := ⟨_, rfl⟩
    rw [hmm] at hlc hpc hbw hg0 b0 b1 ⊢
    have hmf : ∀ (fn : Fn) (first cap : Array Value) (w : World), (Instr.makeFunc fn first cap).run Try.prog w = .ok (.func fn first cap) w := fun _ _ _ _ => rfl
    have eg := enters_of Try.func90 (by kernel_rfl) rfl
    have hck := fun a b => cmp_key hL a b
    have HL := Lib.hid hL
    have Ha := Lib.hid ha
    have Hlc := Lib.hid hlc
    have Hbw := Lib.hid hbw
    have Hg0 := Lib.hid hg0
    have H1 := Lib.hid h1
    have HR2 := Lib.hid hR2
    have HRl := Lib.hid hRl
    have Hpc := Lib.hid hpc
    have Hmm := Lib.hid hmm
    have Hpl := Lib.hid hpl
    have Hck := Lib.hid hck
    have Eg := Lib.hid eg
    clear ha hlc hbw hg0 h1 hR2 hRl hpc hmm hpl hck eg
    clear hL
    go_enter Try.func65, Try.ntmps65
    go_wp2_with fail
    refine (Hlc.out _ Hg0.out).mono ?_
    rintro e w1 ⟨rfl, hb⟩
    have c0 := keep_of_below hb _ _ b0
    have c1 := keep_of_below hb _ _ b1
    have Hb := Lib.hid (Hbw.out.trans (hb.mono Hbw.out.size))
    have hbx : w.heap.size < w1.heap.size := by have := hb.size; simp at this; omega
    clear hb b0 b1
    go_wp2_with fail
    refine (Hpc.out _ (Ha.out.keep (keep_of_below Hb.out))).mono ?_
    rintro e w2 ⟨PA, pc, rfl, hpo, hb2⟩
    rw [Hpl.out]
    have d0 := keep_of_below hb2 _ _ c0
    have d1 := keep_of_below hb2 _ _ c1
    have hbx2 := Nat.lt_of_lt_of_le hbx hb2.size
    have Hb2 := Lib.hid (Hb.out.trans (hb2.mono Hb.out.size))
    have Hpi := Lib.hid hpo.ints
    clear hb2 hpo c0 c1
    have hpb : Below w2.heap.size w2 (w2.alloc (.cells #[.slice PA n pc] 33)) := (Below.refl _ _).alloc (Nat.le_refl _) _
    have y0 : (w2.alloc (.cells #[.slice PA n pc] 33)).cell? ⟨w2.heap.size, 0, none⟩ = some (.slice PA n pc) := by simp
    have hsz : (w2.alloc (.cells #[.slice PA n pc] 33)).heap.size = w2.heap.size + 1 := by simp
    obtain ⟨w3, hw3⟩ : ∃ w3, w2.alloc (.cells #[.slice PA n pc] 33) = w3 := ⟨_, rfl⟩
    obtain ⟨bp, hbp⟩ : ∃ bp, w2.heap.size = bp := ⟨_, rfl⟩
    have hbx3 : w.heap.size < w2.heap.size := hbx2
    rw [hw3, hbp] at y0 hsz
    rw [hw3] at hpb
    rw [hbp] at hbx2
    have e0 := keep_of_below hpb _ _ d0
    have e1 := keep_of_below hpb _ _ d1
    have Hb3 := Lib.hid (Hb2.out.trans (hpb.mono Hb2.out.size))
    have Hp3 := Lib.hid (Hpi.out.keep (keep_of_below hpb))
    have hic := indices_c n w3 (by omega)
    rw [hsz] at hic
    have Hw3 := Lib.hid hw3
    have Hbp := Lib.hid hbp
    have Hic := Lib.hid hic
    have Hsz := Lib.hid hsz
    clear hic hsz
    clear hpb hw3 hbp
    go_wp2_with (go_at_call 88; rw [Hw3.out]; refine Hic.out.mono ?_; rintro e w4 ⟨rfl, ho4, hb4, hz4⟩; (have f0 := keep_of_below (show Below w3.heap.size w3 w4 by rw [Hsz.out]; exact hb4) _ _ e0); (have f1 := keep_of_below (show Below w3.heap.size w3 w4 by rw [Hsz.out]; exact hb4) _ _ e1); (have f2 := keep_of_below (show Below w3.heap.size w3 w4 by rw [Hsz.out]; exact hb4) _ _ y0); have Ho4 := Lib.hid ho4; (have Hb4 : Hid (Below w3.heap.size w3 w4) := Lib.hid (by rw [Hsz.out]; exact hb4)); clear ho4 hb4 e0 e1 y0 d0 d1; simp only [Hbp.out])
    have hb24 : Below w2.heap.size w2 w4 := by
      have h1 : Below w2.heap.size w2 w3 := by rw [← Hw3.out]; exact (Below.refl _ _).alloc (Nat.le_refl _) _
      exact h1.trans (Hb4.out.mono h1.size)
    have hbw4 := Hb2.out.trans (hb24.mono Hb2.out.size)
    have hcg : CmpG 90 #[.pointer (some ⟨w.heap.size, 0, none⟩), .pointer (some ⟨bp, 0, none⟩)] (cmpT n rs) n (bp + 1) w4 := fun W a b ha hb ho =>
      tableOf1_c n a b w.heap.size bp A PA m c pc rs W H1.out ha hb Hmm.out (cell_only ho f0 (.inl (by show w.heap.size < bp + 1; omega))) (cell_only ho f1 (.inl (by show w.heap.size < bp + 1; omega))) (cell_only ho f2 (.inl (by show bp < bp + 1; omega)))
        (Ha.out.keep (keep_of_below (hbw4.trans (below_of_only ho (by omega) hbw4.size)))) (ints_only Hpi.out (keep_of_below hb24) (by have := Hbp.out; omega) ho)
    have hso := sortStable_c 90 #[.pointer (some ⟨w.heap.size, 0, none⟩), .pointer (some ⟨bp, 0, none⟩)] (cmpT n rs) (byKey (keyT n rs)) n (bp + 1) n w4 Eg.out (fun a b _ _ => Hck.out a b) hcg hz4 Ho4.out (by omega) (by omega)
    have Hso := Lib.hid hso
    have Hbw4 := Lib.hid hbw4
    clear hso hbw4
    clear hb24 hcg f0 f1 f2
    refine Hso.out.mono ?_
    rintro e w5 ⟨rfl, ho5, hon5⟩
    have hb5 := Hbw4.out.trans (below_of_only hon5 (by omega) Hbw4.out.size)
    have ho5w := ho5.wide (lo' := w.heap.size) (hi' := w5.heap.size) (by omega) (by have := hon5.size; omega)
    have Hb5 := Lib.hid hb5
    have Ho5w := Lib.hid ho5w
    clear hb5 ho5w
    clear ho5 hon5
    go_wp2
    go_ret
    exact ⟨_, _, rfl, Ho5w.out, Hb5.out⟩
end Go.Proofs.Ytehlijpjcjegcaa
