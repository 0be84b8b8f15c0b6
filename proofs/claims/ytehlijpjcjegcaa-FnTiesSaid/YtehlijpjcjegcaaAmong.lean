/- Contracts: the league with the results between clubs of a set (program and reference). -/
import Derived.Test.YtehlijpjcjegcaaGoals
namespace Go.Proofs.Ytehlijpjcjegcaa
set_option linter.unusedSimpArgs false
set_option linter.unusedVariables false
open Go.RowKit

def inSet (S : Nat) (k : Int) : Bool := decide (S / 2 ^ k.toNat % 2 = 1)
def amongF (S : Nat) (rs : List Res) : List Res := rs.filter fun r => inSet S r.h && inSet S r.a
theorem among_ok {n : Int} {rs : List Res} (S : Nat) (h : leagueOk n rs = true) : leagueOk n (amongF S rs) = true := by
  have hL := league_of h
  simp only [leagueOk, Bool.and_eq_true, decide_eq_true_eq, List.all_eq_true] at h ⊢
  exact ⟨h.1, Nat.le_trans (List.length_filter_le _ _) h.2.1, fun r hr => h.2.2 r (List.mem_filter.1 hr).1⟩
theorem info_result : (Try.prog.info? 47).map (fun i => (i.zero, i.size, i.bytes)) = some (some (.agg #[.int .i64 0, .int .i64 0, .int .i64 0, .int .i64 0]), 4, 32) := by kernel_rfl
theorem info_res2 : ∃ i, Try.prog.info? 47 = some i ∧ i.zero = some (.agg #[.int .i64 0, .int .i64 0, .int .i64 0, .int .i64 0]) ∧ i.size = 4 ∧ i.bytes = 32 := by
  have h := info_result
  cases hq : Try.prog.info? 47 with
  | none => rw [hq] at h; simp at h
  | some i => rw [hq] at h; simp at h; exact ⟨i, rfl, h.1, h.2.1, h.2.2⟩
theorem flat_append : ∀ a b : List Res, flat (a ++ b) = flat a ++ flat b
  | [], b => rfl
  | r :: t, b => by simp [flat, flat_append t b]
theorem flat_one (r : Res) : flat [r] = r.cs := rfl
/-- A row of structs of the call's own, by the blocks above B. -/
def OwnG (B : Nat) (w : World) (A : Option Addr) (c : Nat) (rs : List Res) : Prop := w.ownsRow B 47 4 (.slice A rs.length c) rs.length (flat rs)
theorem OwnG.games {B : Nat} {w : World} {A : Option Addr} {c : Nat} {rs : List Res} (h : OwnG B w A c rs) : Games w A rs := fun k r hr => by
  obtain ⟨h0, h1, h2, h3⟩ := flat_at rs k r hr
  obtain ⟨hl, h4⟩ := h
  rcases h4 with ⟨hv, hn⟩ | ⟨g, cap, cur, hv, hb, hg, hc, hm, hsz, htk⟩
  · have := lt_of hr; omega
  · injection hv with hA hlen hcap
    subst hA
    refine ⟨_, rfl, ?_⟩
    rw [addr_zero_add]
    have hat : ∀ j v, (flat rs)[j]? = some v → w.cell? ⟨g, j, none⟩ = some v := fun j v hj => by
      rw [cell_of_row w g j cur 47 (0, 0) hg]
      rw [← htk, List.getElem?_take] at hj
      split at hj
      · simpa using hj
      · cases hj
    exact ⟨hat _ _ h0, hat _ _ h1, hat _ _ h2, hat _ _ h3⟩
theorem OwnG.nil (B : Nat) (w : World) : OwnG B w none 0 [] := World.ownsRow_nil _ _ _ _
theorem OwnG.set_ {B b j : Nat} {w : World} {A : Option Addr} {c : Nat} {rs : List Res} (h : OwnG B w A c rs) (hb : b < B) (v : Value) : OwnG B (w.setCell ⟨b, j, none⟩ v) A c rs := by
  obtain ⟨hl, h4⟩ := h
  refine ⟨hl, ?_⟩
  rcases h4 with h4 | ⟨g, cap, cur, hv, hbg, hg, r⟩
  · exact .inl h4
  · exact .inr ⟨g, cap, cur, hv, hbg, by rw [Below.heap_setCell w ⟨b, j, none⟩ v g (by show g ≠ b; omega)]; exact hg, r⟩
theorem OwnG.stay {B : Nat} {w w' : World} {A : Option Addr} {c : Nat} {rs : List Res} (h : OwnG B w A c rs) (hb : Below w.heap.size w w') : OwnG B w' A c rs := by
  obtain ⟨hl, h4⟩ := h
  refine ⟨hl, ?_⟩
  rcases h4 with h4 | ⟨g, cap, cur, hv, hbg, hg, r⟩
  · exact .inl h4
  · exact .inr ⟨g, cap, cur, hv, hbg, by rw [hb.block g (Array.getElem?_eq_some_iff.1 hg).1]; exact hg, r⟩
theorem OwnG.of {B : Nat} {w : World} {v : Value} {n : Nat} {rs : List Res} (h : w.ownsRow B 47 4 v n (flat rs)) (hn : rs.length = n) (hpos : 0 < n) :
    ∃ g c, v = .slice (some ⟨g, 0, none⟩) n c ∧ B ≤ g ∧ OwnG B w (some ⟨g, 0, none⟩) c rs := by
  subst hn
  obtain ⟨hl, h4⟩ := h
  rcases h4 with ⟨_, hn⟩ | ⟨g, cap, cur, hv, hb, r⟩
  · omega
  · exact ⟨g, cap, hv, hb, ⟨hl, .inr ⟨g, cap, cur, rfl, hb, r⟩⟩⟩
theorem OwnG.block {B : Nat} {w : World} {A : Option Addr} {c n : Nat} {rs : List Res} (h : OwnG B w A c rs) : ∀ k, (Value.slice A n c).ownBlock = some k → B ≤ k ∧ k < w.heap.size := fun k hk => World.ownsRow.lt h k (by cases A <;> exact hk)
theorem cell_grown {B : Nat} {w w' : World} {row : Option Nat} (h : w.grownBy w' row) (hr : ∀ k, row = some k → B < k) (hB : B < w.heap.size) : w'.heap[B]? = w.heap[B]? :=
  h.block B hB (fun e => by have := hr B e.symm; omega)

set_option maxRecDepth 100000 in
set_option maxHeartbeats 8000000 in
theorem l12Among_c (n : Nat) (A : Option Addr) (c : Nat) (rs : List Res) (S : Nat) (w : World) (ha : Games w A rs) (hok : leagueOk n rs = true) (hS : S < 2 ^ n) :
    Calls Try.prog 84 #[lgv n A rs.length c, .int .i64 (S : Int)] w fun e w' => ∃ A' c', e = .returned (lgv n A' (amongF S rs).length c') ∧ Games w' A' (amongF S rs) ∧ Below w.heap.size w w' ∧ ∀ a, A' = some a → w.heap.size ≤ a.block := by
  have hL := league_of hok
  have hn8 : n ≤ 8 := by have := hL.eight; omega
  have hS8 : S < 256 := Nat.lt_of_lt_of_le hS (Nat.pow_le_pow_right (by decide) hn8 : 2 ^ n ≤ 2 ^ 8)
  have hm60 := hL.few
  have hrs := hL.ok
  obtain ⟨i0, hi0, hi1, hi2, hi3⟩ := info_res2
  unfold lgv
  obtain ⟨m, hm⟩ : ∃ m, rs.length = m := ⟨_, rfl⟩
  rw [hm] at hm60 ⊢
  have Ha := Lib.hid ha
  have Hm := Lib.hid hm
  have Hrs := Lib.hid hrs
  clear ha hm hrs
  clear hL hok hS
  obtain ⟨W, hW⟩ : ∃ W, (w.alloc (.cells #[.int .i64 (n : Int), .slice A m c] 29)).alloc (.cells #[.int .i64 0, .slice none 0 0] 29) = W := ⟨_, rfl⟩
  have hWz : W.heap.size = w.heap.size + 1 + 1 := by rw [← hW]; simp
  have hbw : Below w.heap.size w W := by rw [← hW]; exact ((Below.refl _ _).alloc (Nat.le_refl _) _).alloc (by simp) _
  have w0 : W.cell? ⟨w.heap.size + 1, 0, none⟩ = some (.int .i64 0) := by rw [← hW]; simp
  have w1 : W.cell? ⟨w.heap.size + 1, 1, none⟩ = some (.slice none 0 0) := by rw [← hW]; simp
  have y0 : W.frozen? ⟨w.heap.size + 1, 0, none⟩ = false := by rw [← hW]; simp
  have y1 : W.frozen? ⟨w.heap.size + 1, 1, none⟩ = false := by rw [← hW]; simp
  obtain ⟨B, hB⟩ : ∃ B, w.heap.size + 1 + 1 = B := ⟨_, rfl⟩
  rw [hB] at hWz
  have HWe := Lib.hid hW
  have HBe := Lib.hid hB
  have HbW := Lib.hid hbw
  have HBW := Lib.hid hWz
  have W0 := Lib.hid w0
  have W1 := Lib.hid w1
  have Y0 := Lib.hid y0
  have Y1 := Lib.hid y1
  clear hW hB hbw hWz w0 w1 y0 y1
  go_enter Try.func84, Try.ntmps84
  go_wp2
  rw [HWe.out]
  simp only [HBe.out]
  have hat0 : (W.alloc (.cells #[.int .i64 (n : Int), .slice none 0 0] 29)).cell? ⟨B, 0, none⟩ = some (.int .i64 (n : Int)) := by rw [← HBW.out]; simp
  have hat1 : (W.alloc (.cells #[.int .i64 (n : Int), .slice none 0 0] 29)).cell? ⟨B, 1, none⟩ = some (.slice none 0 0) := by rw [← HBW.out]; simp
  have hatz : (W.alloc (.cells #[.int .i64 (n : Int), .slice none 0 0] 29)).frozen? ⟨B, 1, none⟩ = false := by rw [← HBW.out]; simp
  have Hat0 := Lib.hid hat0
  have Hat1 := Lib.hid hat1
  have Hatz := Lib.hid hatz
  clear hat0 hat1 hatz
  go_loopw [14] (fun i wr => ∃ (j : Nat) (A1 : Option Addr) (d1 : Nat), j ≤ m ∧ i = .int .i64 j ∧ wr.cell? ⟨B, 0, none⟩ = some (.int .i64 (n : Int)) ∧ wr.cell? ⟨B, 1, none⟩ = some (.slice A1 (amongF S (rs.take j)).length d1) ∧ wr.frozen? ⟨B, 1, none⟩ = false ∧ B < wr.heap.size ∧ OwnG (B + 1) wr A1 d1 (amongF S (rs.take j)) ∧ Below W.heap.size W wr) (fun i _ => m - (intOf i).toNat)
  case atStart => exact ⟨0, none, 0, Nat.zero_le _, rfl, Hat0.out, Hat1.out, Hatz.out, by rw [← HBW.out]; simp, OwnG.nil _ _, (Below.refl _ _).alloc (Nat.le_refl _) _⟩
  case round =>
    clear Hat0 Hat1 Hatz
    obtain ⟨j, A1, d1, hj, rfl, hc0, hc1, hz1, hBz, ho, hb⟩ := hrel
    have Ho := Lib.hid ho
    have Hb := Lib.hid hb
    clear ho hb
    by_cases hlt : j < m
    · have hji : (j : Int) < (m : Int) := by omega
      obtain ⟨r, hr⟩ := some_of (l := rs) (k := j) (by rw [Hm.out]; exact hlt)
      have hro := resOk_of (Hrs.out r (List.mem_of_getElem? hr))
      obtain ⟨ad, rfl, a0, a1, a2, a3⟩ := (Ha.out.keep (keep_of_below (HbW.out.trans (Hb.out.mono HbW.out.size)))) j _ hr
      have hstep : amongF S (rs.take (j + 1)) = amongF S (rs.take j) ++ (if (inSet S r.h && inSet S r.a) = true then [r] else []) := by
        rw [take_of hr, amongF, amongF, List.filter_append]; congr 1; simp only [List.filter_cons, List.filter_nil]
      have hrj : (amongF S (rs.take j)).length ≤ 60 := Nat.le_trans (List.length_filter_le _ _) (by rw [List.length_take]; omega)
      obtain ⟨L, hL⟩ : ∃ L, amongF S (rs.take j) = L := ⟨_, rfl⟩
      rw [hL] at hstep hrj hc1
      have ho' : OwnG (B + 1) wr A1 d1 L := by have := Ho.out; rwa [hL] at this
      obtain ⟨rh, ra, rg, rt⟩ := r
      obtain ⟨h, eh⟩ := Int.eq_ofNat_of_zero_le hro.h0
      obtain ⟨a, ea⟩ := Int.eq_ofNat_of_zero_le hro.a0
      simp only at eh ea a0 a1 a2 a3 hstep
      subst eh ea
      have hh8 : h < 8 := by have := hro.hn; simp only at this; omega
      have ha8 : a < 8 := by have := hro.an; simp only at this; omega
      obtain ⟨u, hu⟩ : ∃ u, S / 2 ^ h = u := ⟨_, rfl⟩
      have hu256 : u < 256 := by rw [← hu]; exact Nat.lt_of_le_of_lt (Nat.div_le_self _ _) hS8
      have f1 : (S : Int) / 2 ^ h = (u : Int) := by rw [← hu]; exact shr_nat S h
      have f2 : bits .and .i64 (u : Int) 1 = ((u % 2 : Nat) : Int) := and_one u (by omega)
      obtain ⟨v, hv⟩ : ∃ v, S / 2 ^ a = v := ⟨_, rfl⟩
      have hv256 : v < 256 := by rw [← hv]; exact Nat.lt_of_le_of_lt (Nat.div_le_self _ _) hS8
      have f3 : (S : Int) / 2 ^ a = (v : Int) := by rw [← hv]; exact shr_nat S a
      have f4 : bits .and .i64 (v : Int) 1 = ((v % 2 : Nat) : Int) := and_one v (by omega)
      have hsu : inSet S (h : Int) = decide (u % 2 = 1) := by rw [inSet, Int.toNat_natCast, hu]
      have hsv : inSet S (a : Int) = decide (v % 2 = 1) := by rw [inSet, Int.toNat_natCast, hv]
      rw [hsu, hsv] at hstep
      obtain ⟨b0, b1, b2, b3⟩ := box4 wr (.int .i64 (h : Int)) (.int .i64 (a : Int)) (.int .i64 rg) (.int .i64 rt) 47
      have hbr : Below wr.heap.size wr (wr.alloc (.cells #[.int .i64 (h : Int), .int .i64 (a : Int), .int .i64 rg, .int .i64 rt] 47)) := (Below.refl _ _).alloc (Nat.le_refl _) _
      have q0 := keep_of_below hbr _ _ hc0
      have q1 := keep_of_below hbr _ _ hc1
      have y1 := (hbr.frozen (p := ⟨B, 1, none⟩) hBz).trans hz1
      have Hr := Lib.hid hr
      have Hbr := Lib.hid hbr
      have Hu := Lib.hid hu
      have Hv := Lib.hid hv
      have Hsu := Lib.hid hsu
      have Hsv := Lib.hid hsv
      have HL := Lib.hid hL
      clear hr hbr hu hv hsu hsv hL
      clear hro Ho
      by_cases hu1 : u % 2 = 1
      · have f5 : ((u : Int) % 2 == 1) = true := by simp; omega
        by_cases hv1 : v % 2 = 1
        · have f6 : ((v : Int) % 2 == 1) = true := by simp; omega
          have hstep2 : amongF S (rs.take (j + 1)) = L ++ [⟨(h : Int), (a : Int), rg, rt⟩] := by rw [hstep, hu1, hv1]; rfl
          have Hstep := Lib.hid hstep
          have Hstep2 := Lib.hid hstep2
          have Hu1 := Lib.hid hu1
          have Hv1 := Lib.hid hv1
          have Ho' := Lib.hid ho'
          clear hstep hstep2 hu1 hv1 ho'
          go_wp2_with (at_builtin; refine wpList_append_own ((wr.alloc (.cells #[.int .i64 (h : Int), .int .i64 (a : Int), .int .i64 rg, .int .i64 rt] 47)).alloc (.cells #[.int .i64 (h : Int), .int .i64 (a : Int), .int .i64 rg, .int .i64 rt] 47)) rfl (.tmp 33) (.tmp 35) 27 rfl (B + 1) 47 i0 (.agg #[.int .i64 0, .int .i64 0, .int .i64 0, .int .i64 0]) 4 32 Try.underlying27 hi0 hi1 hi2 hi3 rfl (by decide) (.slice A1 L.length d1) L.length (flat L) rfl ((World.ownsRow.alloc Ho'.out _).alloc _) ⟨wr.heap.size + 1, 0, none⟩ 1 1 [.int .i64 (h : Int), .int .i64 (a : Int), .int .i64 rg, .int .i64 rt] rfl rfl ?c1 ?c2 ?c3 ?c4 ?c5 ?_)
          case c1 =>
            intro x y hxy
            rw [addr_zero_add]
            have hsz : (wr.alloc (.cells #[.int .i64 (h : Int), .int .i64 (a : Int), .int .i64 rg, .int .i64 rt] 47)).heap.size = wr.heap.size + 1 := by simp
            have := cell_of_row _ (wr.alloc (.cells #[.int .i64 (h : Int), .int .i64 (a : Int), .int .i64 rg, .int .i64 rt] 47)).heap.size x _ _ _ (heap_alloc_new (wr.alloc (.cells #[.int .i64 (h : Int), .int .i64 (a : Int), .int .i64 rg, .int .i64 rt] 47)) (.cells #[.int .i64 (h : Int), .int .i64 (a : Int), .int .i64 rg, .int .i64 rt] 47))
            rw [hsz] at this
            rw [this]; simpa using hxy
          case c2 =>
            intro x hx
            simp only [List.mem_cons, List.not_mem_nil, or_false] at hx
            rcases hx with rfl | rfl | rfl | rfl <;> rfl
          case c3 => unfold maxLen; omega
          case c4 => omega
          case c5 => simp; omega
          intro v' w2 hown hgr _
          have hfl : flat L ++ [Value.int .i64 (h : Int), .int .i64 (a : Int), .int .i64 rg, .int .i64 rt] = flat (L ++ [⟨(h : Int), (a : Int), rg, rt⟩]) := by rw [flat_append]; rfl
          rw [hfl] at hown
          obtain ⟨g2, d2, hv2, hg2, ho2⟩ := OwnG.of hown (by simp) (by omega)
          have hrow : ∀ k, (Value.slice A1 L.length d1).ownBlock = some k → B < k := fun k hk => by have := (OwnG.block Ho'.out k hk).1; omega
          have hb2 : Below (B + 1) ((wr.alloc (.cells #[.int .i64 (h : Int), .int .i64 (a : Int), .int .i64 rg, .int .i64 rt] 47)).alloc (.cells #[.int .i64 (h : Int), .int .i64 (a : Int), .int .i64 rg, .int .i64 rt] 47)) w2 := (Below.refl _ _).grown hgr (by simp; omega) (fun k hk => by have := hrow k hk; omega)
          have hb0 : Below wr.heap.size wr ((wr.alloc (.cells #[.int .i64 (h : Int), .int .i64 (a : Int), .int .i64 rg, .int .i64 rt] 47)).alloc (.cells #[.int .i64 (h : Int), .int .i64 (a : Int), .int .i64 rg, .int .i64 rt] 47)) := ((Below.refl _ _).alloc (Nat.le_refl _) _).alloc (by simp) _
          have hbx := (hb0.mono (show B + 1 ≤ wr.heap.size by omega)).trans hb2
          have z0 := hbx.cell (p := ⟨B, 0, none⟩) (by show B < B + 1; omega)
          have z1 := hbx.cell (p := ⟨B, 1, none⟩) (by show B < B + 1; omega)
          have z2 := hbx.frozen (p := ⟨B, 1, none⟩) (by show B < B + 1; omega)
          rw [hc0] at z0
          rw [hc1] at z1
          rw [hz1] at z2
          have hzz := hbx.size
          have hBw : W.heap.size = B := HBW.out
          have hb5 : Below W.heap.size W w2 := Hb.out.trans (hbx.mono (by omega))
          subst hv2
          have Ho2 := Lib.hid ho2
          have Hb5 := Lib.hid hb5
          clear ho2 hb5
          clear hown hgr hb2 hb0 hbx hrow hfl q0 q1 y1 a0 a1 a2 a3 b0 b1 b2 b3 hc0 hc1 hz1
          go_wp2
          go_roundw
          case rel =>
            refine ⟨j + 1, some ⟨g2, 0, none⟩, d2, by omega, by go_num, ?_, ?_, by simpa using z2, by simp [World.setCell]; omega, ?_, Hb5.out.setCell (p := ⟨B, 1, none⟩) (by show W.heap.size ≤ B; exact Nat.le_of_eq HBW.out) _⟩
            · exact (World.cell?_setCell_other _ ⟨B, 1, none⟩ ⟨B, 0, none⟩ _ (by simp)).trans z0
            · rw [Hstep2.out, List.length_append]; exact World.cell?_setCell_same _ _ _ z1
            · rw [Hstep2.out]; exact Ho2.out.set_ (by omega) _
          case measure => simp [intOf]; omega
        · have f6 : ((v : Int) % 2 == 1) = false := by simp; omega
          have hstep2 : amongF S (rs.take (j + 1)) = L := by rw [hstep, decide_eq_false hv1, Bool.and_false]; simp
          have ho3 := ho'.stay Hbr.out
          have hb3 := Hb.out.trans (Hbr.out.mono Hb.out.size)
          have Hstep := Lib.hid hstep
          have Hstep2 := Lib.hid hstep2
          have Hu1 := Lib.hid hu1
          have Hv1 := Lib.hid hv1
          have Ho' := Lib.hid ho'
          have Ho3 := Lib.hid ho3
          have Hb3 := Lib.hid hb3
          clear hstep hstep2 hu1 hv1 ho' ho3 hb3
          go_wp2
          go_roundw
          case rel => exact ⟨j + 1, A1, d1, by omega, by go_num, q0, by rw [Hstep2.out]; exact q1, y1, by simp; omega, by rw [Hstep2.out]; exact Ho3.out, Hb3.out⟩
          case measure => simp [intOf]; omega
      · have f5 : ((u : Int) % 2 == 1) = false := by simp; omega
        have hstep2 : amongF S (rs.take (j + 1)) = L := by rw [hstep, decide_eq_false hu1, Bool.false_and]; simp
        have ho3 := ho'.stay Hbr.out
        have hb3 := Hb.out.trans (Hbr.out.mono Hb.out.size)
        have Hstep := Lib.hid hstep
        have Hstep2 := Lib.hid hstep2
        have Hu1 := Lib.hid hu1
        have Ho' := Lib.hid ho'
        have Ho3 := Lib.hid ho3
        have Hb3 := Lib.hid hb3
        clear hstep hstep2 hu1 ho' ho3 hb3
        go_wp2
        go_roundw
        case rel => exact ⟨j + 1, A1, d1, by omega, by go_num, q0, by rw [Hstep2.out]; exact q1, y1, by simp; omega, by rw [Hstep2.out]; exact Ho3.out, Hb3.out⟩
        case measure => simp [intOf]; omega
    · obtain rfl : j = m := by omega
      have hall : amongF S (rs.take j) = amongF S rs := by rw [List.take_of_length_le (by rw [Hm.out]; exact Nat.le_refl _)]
      rw [hall] at hc1
      have ho2 : OwnG (B + 1) wr A1 d1 (amongF S rs) := by have := Ho.out; rwa [hall] at this
      have hBw : W.heap.size = B := HBW.out
      have hBe := HBe.out
      have v0 := (Hb.out.cell (p := ⟨w.heap.size + 1, 0, none⟩) (by show w.heap.size + 1 < W.heap.size; omega)).trans W0.out
      have v1 := (Hb.out.cell (p := ⟨w.heap.size + 1, 1, none⟩) (by show w.heap.size + 1 < W.heap.size; omega)).trans W1.out
      have z0 := (Hb.out.frozen (p := ⟨w.heap.size + 1, 0, none⟩) (by show w.heap.size + 1 < W.heap.size; omega)).trans Y0.out
      have z1 := (Hb.out.frozen (p := ⟨w.heap.size + 1, 1, none⟩) (by show w.heap.size + 1 < W.heap.size; omega)).trans Y1.out
      obtain ⟨K, hK⟩ : ∃ K, w.heap.size + 1 = K := ⟨_, rfl⟩
      have hKB : K < B := by omega
      have hKw : w.heap.size ≤ K := by omega
      rw [hK] at v0 v1 z0 z1
      simp only [hK]
      have hbf := HbW.out.trans (Hb.out.mono HbW.out.size)
      have Ho2 := Lib.hid ho2
      have HK := Lib.hid hK
      have Hbf := Lib.hid hbf
      clear ho2 hK hbf
      clear hall hBw hBe Ho Hb
      go_wp2
      have hKs : ∀ v, (wr.setCell ⟨K, 0, none⟩ v).cell? ⟨K, 1, none⟩ = some (.slice none 0 0) := fun v => (World.cell?_setCell_other _ ⟨K, 0, none⟩ ⟨K, 1, none⟩ _ (by simp)).trans v1
      have r0 : ((wr.setCell ⟨K, 0, none⟩ (.int .i64 (n : Int))).setCell ⟨K, 1, none⟩ (.slice A1 (amongF S rs).length d1)).cell? ⟨K, 0, none⟩ = some (.int .i64 (n : Int)) := (World.cell?_setCell_other _ ⟨K, 1, none⟩ ⟨K, 0, none⟩ _ (by simp)).trans (World.cell?_setCell_same _ _ _ v0)
      have r1 : ((wr.setCell ⟨K, 0, none⟩ (.int .i64 (n : Int))).setCell ⟨K, 1, none⟩ (.slice A1 (amongF S rs).length d1)).cell? ⟨K, 1, none⟩ = some (.slice A1 (amongF S rs).length d1) := World.cell?_setCell_same _ _ _ (hKs _)
      refine bodyPost_ret (v := .agg #[.int .i64 (n : Int), .slice A1 (amongF S rs).length d1]) (by simp [results, Try.results84, go_sem, r0, r1]) rfl ⟨A1, d1, rfl, ((Ho2.out.set_ (by omega) _).set_ (by omega) _).games, (Hbf.out.setCell (p := ⟨K, 0, none⟩) hKw _).setCell (p := ⟨K, 1, none⟩) hKw _, fun a e => by subst e; have := (Ho2.out.block (n := (amongF S rs).length) a.block rfl).1; omega⟩

def amongOk (n : Int) (rs : List Res) (s : Int) : Bool := leagueOk n rs && inR s 0 (((2 ^ n.toNat : Nat) : Int) - 1)
def AmongPost (w : World) (n : Int) (rs : List Res) (s : Int) (e : Ending) (w' : World) : Prop :=
  Below w.heap.size w w' ∧ ((amongOk n rs s = false ∧ e = .returned (.tuple #[lgv 0 none 0 0, .bool false])) ∨
    (amongOk n rs s = true ∧ ∃ A' c', e = .returned (.tuple #[lgv n A' (amongF s.toNat rs).length c', .bool true]) ∧ Games w' A' (amongF s.toNat rs)))
theorem box2f (w : World) (x y : Value) (T : TypeId) : (w.alloc (.cells #[x, y] T)).frozen? ⟨w.heap.size, 0, none⟩ = false ∧ (w.alloc (.cells #[x, y] T)).frozen? ⟨w.heap.size, 1, none⟩ = false := by simp
/-- A block of two cells is written anew. -/
theorem write2 {w : World} {B K : Nat} {x y u v : Value} (h0 : w.cell? ⟨K, 0, none⟩ = some x) (h1 : w.cell? ⟨K, 1, none⟩ = some y) :
    ((w.setCell ⟨K, 0, none⟩ u).setCell ⟨K, 1, none⟩ v).cell? ⟨K, 0, none⟩ = some u ∧ ((w.setCell ⟨K, 0, none⟩ u).setCell ⟨K, 1, none⟩ v).cell? ⟨K, 1, none⟩ = some v :=
  ⟨(World.cell?_setCell_other _ ⟨K, 1, none⟩ ⟨K, 0, none⟩ _ (by simp)).trans (World.cell?_setCell_same _ _ _ h0), World.cell?_setCell_same _ _ _ ((World.cell?_setCell_other _ ⟨K, 0, none⟩ ⟨K, 1, none⟩ _ (by simp)).trans h1)⟩
theorem games_write {w : World} {K : Nat} {A : Option Addr} {rs : List Res} (h : Games w A rs) (hK : ∀ a, A = some a → a.block ≠ K) (u v : Value) : Games ((w.setCell ⟨K, 0, none⟩ u).setCell ⟨K, 1, none⟩ v) A rs := fun k r hr => by
  obtain ⟨ad, e, f0, f1, f2, f3⟩ := h k r hr
  have hb := hK ad e
  have hbb : (ad.add (k * 4)).block = ad.block := by unfold Addr.add; split <;> rfl
  have hst : ∀ p : Addr, p.block = ad.block → ((w.setCell ⟨K, 0, none⟩ u).setCell ⟨K, 1, none⟩ v).cell? p = w.cell? p := fun p hp =>
    (World.cell?_setCell_other _ _ _ _ (fun e => hb (by rw [← hp, ← e]))).trans (World.cell?_setCell_other _ _ _ _ (fun e => hb (by rw [← hp, ← e])))
  exact ⟨ad, e, (hst _ hbb).trans f0, (hst ⟨(ad.add (k * 4)).block, (ad.add (k * 4)).off + 1, none⟩ hbb).trans f1, (hst ⟨(ad.add (k * 4)).block, (ad.add (k * 4)).off + 2, none⟩ hbb).trans f2, (hst ⟨(ad.add (k * 4)).block, (ad.add (k * 4)).off + 3, none⟩ hbb).trans f3⟩

set_option maxRecDepth 100000 in
set_option maxHeartbeats 8000000 in
theorem sAmongClubs_c (n : Int) (A : Option Addr) (c : Nat) (rs : List Res) (s : Int) (w : World) (ha : Games w A rs) (hm : rs.length ≤ 1048576) :
    Calls Try.prog 61 #[lgv n A rs.length c, .int .i64 s] w (AmongPost w n rs s) := by
  have hlc := fun W (h : Games W A rs) => sLeagueOk_c n A c rs W h hm
  obtain ⟨b0, b1⟩ := box2 w (.int .i64 n) (.slice A rs.length c) 29
  have hbw : Below w.heap.size w ((w.alloc (.cells #[.int .i64 n, .slice A rs.length c] 29)).alloc (.cells #[.int .i64 0, .slice none 0 0] 29)) := ((Below.refl _ _).alloc (Nat.le_refl _) _).alloc (by simp) _
  obtain ⟨W, hW⟩ : ∃ W, (w.alloc (.cells #[.int .i64 n, .slice A rs.length c] 29)).alloc (.cells #[.int .i64 0, .slice none 0 0] 29) = W := ⟨_, rfl⟩
  obtain ⟨K, hK⟩ : ∃ K, w.heap.size + 1 = K := ⟨_, rfl⟩
  have hKw : w.heap.size ≤ K := by omega
  have hWz : W.heap.size = K + 1 := by rw [← hW, ← hK]; simp
  have w0 : W.cell? ⟨K, 0, none⟩ = some (.int .i64 0) := by rw [← hW, ← hK]; simp
  have w1 : W.cell? ⟨K, 1, none⟩ = some (.slice none 0 0) := by rw [← hW, ← hK]; simp
  have y0 : W.frozen? ⟨K, 0, none⟩ = false := by rw [← hW, ← hK]; simp
  have y1 : W.frozen? ⟨K, 1, none⟩ = false := by rw [← hW, ← hK]; simp
  have x0 : W.cell? ⟨w.heap.size, 0, none⟩ = some (.int .i64 n) := by rw [← hW]; simp
  have x1 : W.cell? ⟨w.heap.size, 1, none⟩ = some (.slice A rs.length c) := by rw [← hW]; simp
  rw [hW] at hbw
  have hwz : w.heap.size < W.heap.size := by omega
  have hKz : K < W.heap.size := by omega
  have hg := ha.keep (keep_of_below hbw)
  unfold lgv at hlc ⊢
  clear b0 b1
  have HWe := Lib.hid hW
  have HKe := Lib.hid hK
  have X0 := Lib.hid x0
  have X1 := Lib.hid x1
  clear hW hK x0 x1
  have Hbw := Lib.hid hbw
  have Hg := Lib.hid hg
  have HWz := Lib.hid hWz
  have Ha := Lib.hid ha
  clear hbw hg hWz ha
  cases h1 : leagueOk n rs
  · have hno : amongOk n rs s = false := by rw [amongOk, h1]; rfl
    simp only [h1] at hlc
    have Hlc := Lib.hid hlc
    have Hno := Lib.hid hno
    have H1 := Lib.hid h1
    clear hlc hno h1
    go_enter Try.func61, Try.ntmps61
    go_wp2_with (go_at_call 48; rw [HWe.out]; refine (Hlc.out _ Hg.out).mono ?_; rintro e w2 ⟨rfl, hb2⟩; (have p0 := (hb2.cell (p := ⟨K, 0, none⟩) hKz).trans w0); (have p1 := (hb2.cell (p := ⟨K, 1, none⟩) hKz).trans w1); (have q0 := (hb2.frozen (p := ⟨K, 0, none⟩) hKz).trans y0); (have q1 := (hb2.frozen (p := ⟨K, 1, none⟩) hKz).trans y1); (have x0 := (hb2.cell (p := ⟨w.heap.size, 0, none⟩) hwz).trans X0.out); (have x1 := (hb2.cell (p := ⟨w.heap.size, 1, none⟩) hwz).trans X1.out); have Hw := Lib.hid (Hbw.out.trans (hb2.mono Hbw.out.size)); (have hKz2 := Nat.lt_of_lt_of_le hKz hb2.size); (have hwz2 := Nat.lt_of_lt_of_le hwz hb2.size); clear hb2; simp only [HKe.out])
    obtain ⟨r0, r1⟩ := write2 (B := 0) (u := .int .i64 0) (v := .slice none 0 0) p0 p1
    refine bodyPost_ret (v := .tuple #[.agg #[.int .i64 0, .slice none 0 0], .bool false]) (by simp [results, Try.results61, go_sem, r0, r1]) rfl ⟨?_, .inl ⟨Hno.out, rfl⟩⟩
    first | exact (Hw.out.setCell (p := ⟨K, 0, none⟩) hKw _).setCell (p := ⟨K, 1, none⟩) hKw _ | exact ((Hw.out.trans (below_drewN _ _ _)).setCell (p := ⟨K, 0, none⟩) hKw _).setCell (p := ⟨K, 1, none⟩) hKw _
  · have hL := league_of h1
    have hn8 := hL.eight
    obtain ⟨n, rfl⟩ := Int.eq_ofNat_of_zero_le (show 0 ≤ n by have := hL.two; omega)
    obtain ⟨N, hN⟩ : ∃ N, 2 ^ n = N := ⟨_, rfl⟩
    have hN256 : N ≤ 256 := by rw [← hN]; exact Nat.pow_le_pow_right (by decide) (by omega : n ≤ 8)
    have hN1 : 1 ≤ N := by rw [← hN]; exact Nat.one_le_two_pow
    have e0 : wrap64 ((2 : Int) ^ n) = (N : Int) := pow_wrap hN (by omega)
    have e1 : IntKind.i64.wrap ((N : Int) - 1) = (N : Int) - 1 := IntWalk.i64_in _ (by omega)
    simp only [h1] at hlc
    cases hin : inR s 0 ((N : Int) - 1)
    · have hno : amongOk n rs s = false := by rw [amongOk, h1, Int.toNat_natCast, hN, hin]; rfl
      have Hlc := Lib.hid hlc
      have Hno := Lib.hid hno
      have H1 := Lib.hid h1
      have Hin := Lib.hid hin
      have HN := Lib.hid hN
      have HL := Lib.hid hL
      clear hlc hno h1 hin hN hL
      go_enter Try.func61, Try.ntmps61
      go_wp2_with (first | (go_at_call 48; rw [HWe.out]; refine (Hlc.out _ Hg.out).mono ?_; rintro e w2 ⟨rfl, hb2⟩; (have p0 := (hb2.cell (p := ⟨K, 0, none⟩) hKz).trans w0); (have p1 := (hb2.cell (p := ⟨K, 1, none⟩) hKz).trans w1); (have q0 := (hb2.frozen (p := ⟨K, 0, none⟩) hKz).trans y0); (have q1 := (hb2.frozen (p := ⟨K, 1, none⟩) hKz).trans y1); (have x0 := (hb2.cell (p := ⟨w.heap.size, 0, none⟩) hwz).trans X0.out); (have x1 := (hb2.cell (p := ⟨w.heap.size, 1, none⟩) hwz).trans X1.out); have Hw := Lib.hid (Hbw.out.trans (hb2.mono Hbw.out.size)); (have hKz2 := Nat.lt_of_lt_of_le hKz hb2.size); (have hwz2 := Nat.lt_of_lt_of_le hwz hb2.size); clear hb2; simp only [HKe.out]) | (go_at_call 77; refine (calls_v (l01In_c _ _ _ _) (congrArg Value.bool Hin.out)).mono ?_; rintro e w3 ⟨rfl, hq3⟩; (have hb3 := hq3.below w2.heap.size); (have p0 := (hb3.cell (p := ⟨K, 0, none⟩) hKz2).trans p0); (have p1 := (hb3.cell (p := ⟨K, 1, none⟩) hKz2).trans p1); (have q0 := (hb3.frozen (p := ⟨K, 0, none⟩) hKz2).trans q0); (have q1 := (hb3.frozen (p := ⟨K, 1, none⟩) hKz2).trans q1); (have x0 := (hb3.cell (p := ⟨w.heap.size, 0, none⟩) hwz2).trans x0); (have x1 := (hb3.cell (p := ⟨w.heap.size, 1, none⟩) hwz2).trans x1); have Hw := Lib.hid (Hw.out.trans (hb3.mono Hw.out.size)); (have hKz2 := Nat.lt_of_lt_of_le hKz2 hb3.size); (have hwz2 := Nat.lt_of_lt_of_le hwz2 hb3.size); clear hb3 hq3))
      obtain ⟨r0, r1⟩ := write2 (B := 0) (u := .int .i64 0) (v := .slice none 0 0) p0 p1
      refine bodyPost_ret (v := .tuple #[.agg #[.int .i64 0, .slice none 0 0], .bool false]) (by simp [results, Try.results61, go_sem, r0, r1]) rfl ⟨?_, .inl ⟨Hno.out, rfl⟩⟩
      first | exact (Hw.out.setCell (p := ⟨K, 0, none⟩) hKw _).setCell (p := ⟨K, 1, none⟩) hKw _ | exact ((Hw.out.trans (below_drewN _ _ _)).setCell (p := ⟨K, 0, none⟩) hKw _).setCell (p := ⟨K, 1, none⟩) hKw _
    · obtain ⟨hs0, hs1⟩ := inR_true hin
      have hyes : amongOk n rs s = true := by rw [amongOk, h1, Int.toNat_natCast, hN, hin]; rfl
      obtain ⟨S, rfl⟩ := Int.eq_ofNat_of_zero_le hs0
      have hS : S < 2 ^ n := by rw [hN]; omega
      have hac := fun W (h : Games W A rs) => l12Among_c n A c rs S W h h1 hS
      unfold lgv at hac
      have Hlc := Lib.hid hlc
      have Hyes := Lib.hid hyes
      have H1 := Lib.hid h1
      have Hin := Lib.hid hin
      have HN := Lib.hid hN
      have Hac := Lib.hid hac
      have HL := Lib.hid hL
      have HS := Lib.hid hS
      clear hlc hyes h1 hin hN hac hL hS
      go_enter Try.func61, Try.ntmps61
      go_wp2_with (first | (go_at_call 48; rw [HWe.out]; refine (Hlc.out _ Hg.out).mono ?_; rintro e w2 ⟨rfl, hb2⟩; (have p0 := (hb2.cell (p := ⟨K, 0, none⟩) hKz).trans w0); (have p1 := (hb2.cell (p := ⟨K, 1, none⟩) hKz).trans w1); (have q0 := (hb2.frozen (p := ⟨K, 0, none⟩) hKz).trans y0); (have q1 := (hb2.frozen (p := ⟨K, 1, none⟩) hKz).trans y1); (have x0 := (hb2.cell (p := ⟨w.heap.size, 0, none⟩) hwz).trans X0.out); (have x1 := (hb2.cell (p := ⟨w.heap.size, 1, none⟩) hwz).trans X1.out); have Hw := Lib.hid (Hbw.out.trans (hb2.mono Hbw.out.size)); (have hKz2 := Nat.lt_of_lt_of_le hKz hb2.size); (have hwz2 := Nat.lt_of_lt_of_le hwz hb2.size); clear hb2; simp only [HKe.out]) | (go_at_call 77; refine (calls_v (l01In_c _ _ _ _) (congrArg Value.bool Hin.out)).mono ?_; rintro e w3 ⟨rfl, hq3⟩; (have hb3 := hq3.below w2.heap.size); (have p0 := (hb3.cell (p := ⟨K, 0, none⟩) hKz2).trans p0); (have p1 := (hb3.cell (p := ⟨K, 1, none⟩) hKz2).trans p1); (have q0 := (hb3.frozen (p := ⟨K, 0, none⟩) hKz2).trans q0); (have q1 := (hb3.frozen (p := ⟨K, 1, none⟩) hKz2).trans q1); (have x0 := (hb3.cell (p := ⟨w.heap.size, 0, none⟩) hwz2).trans x0); (have x1 := (hb3.cell (p := ⟨w.heap.size, 1, none⟩) hwz2).trans x1); have Hw := Lib.hid (Hw.out.trans (hb3.mono Hw.out.size)); (have hKz2 := Nat.lt_of_lt_of_le hKz2 hb3.size); (have hwz2 := Nat.lt_of_lt_of_le hwz2 hb3.size); clear hb3 hq3) | (go_at_call 84; refine (Hac.out _ (Ha.out.keep (keep_of_below Hw.out))).mono ?_; rintro e w4 ⟨A1, d1, rfl, hg4, hb4, hlo⟩; (have p2 := (hb4.cell (p := ⟨K, 0, none⟩) hKz2).trans p0); (have p3 := (hb4.cell (p := ⟨K, 1, none⟩) hKz2).trans p1); (have q2 := (hb4.frozen (p := ⟨K, 0, none⟩) hKz2).trans q0); (have q3 := (hb4.frozen (p := ⟨K, 1, none⟩) hKz2).trans q1); have Hg4 := Lib.hid hg4; have Hb4 := Lib.hid (Hw.out.trans (hb4.mono Hw.out.size)); clear hg4 hb4 p0 p1 q0 q1))
      obtain ⟨r0, r1⟩ := write2 (B := 0) (u := .int .i64 (n : Int)) (v := .slice A1 (amongF S rs).length d1) p2 p3
      exact bodyPost_ret (v := .tuple #[.agg #[.int .i64 (n : Int), .slice A1 (amongF S rs).length d1], .bool true]) (by simp [results, Try.results61, go_sem, r0, r1]) rfl ⟨(Hb4.out.setCell (p := ⟨K, 0, none⟩) hKw _).setCell (p := ⟨K, 1, none⟩) hKw _, .inr ⟨Hyes.out, A1, d1, rfl, games_write Hg4.out (fun a e => by have := hlo a e; have := hKz2; omega) _ _⟩⟩

set_option maxRecDepth 100000 in
set_option maxHeartbeats 8000000 in
theorem iAmongClubs_c (n : Int) (A : Option Addr) (c : Nat) (rs : List Res) (s : Int) (w : World) (ha : Games w A rs) (hm : rs.length ≤ 1048576) :
    Calls Try.prog 63 #[lgv n A rs.length c, .int .i64 s] w (AmongPost w n rs s) := by
  have hlc := fun W (h : Games W A rs) => iLeagueOk_c n A c rs W h hm
  obtain ⟨b0, b1⟩ := box2 w (.int .i64 n) (.slice A rs.length c) 29
  have hbw : Below w.heap.size w ((w.alloc (.cells #[.int .i64 n, .slice A rs.length c] 29)).alloc (.cells #[.int .i64 0, .slice none 0 0] 29)) := ((Below.refl _ _).alloc (Nat.le_refl _) _).alloc (by simp) _
  obtain ⟨W, hW⟩ : ∃ W, (w.alloc (.cells #[.int .i64 n, .slice A rs.length c] 29)).alloc (.cells #[.int .i64 0, .slice none 0 0] 29) = W := ⟨_, rfl⟩
  obtain ⟨K, hK⟩ : ∃ K, w.heap.size + 1 = K := ⟨_, rfl⟩
  have hKw : w.heap.size ≤ K := by omega
  have hWz : W.heap.size = K + 1 := by rw [← hW, ← hK]; simp
  have w0 : W.cell? ⟨K, 0, none⟩ = some (.int .i64 0) := by rw [← hW, ← hK]; simp
  have w1 : W.cell? ⟨K, 1, none⟩ = some (.slice none 0 0) := by rw [← hW, ← hK]; simp
  have y0 : W.frozen? ⟨K, 0, none⟩ = false := by rw [← hW, ← hK]; simp
  have y1 : W.frozen? ⟨K, 1, none⟩ = false := by rw [← hW, ← hK]; simp
  have x0 : W.cell? ⟨w.heap.size, 0, none⟩ = some (.int .i64 n) := by rw [← hW]; simp
  have x1 : W.cell? ⟨w.heap.size, 1, none⟩ = some (.slice A rs.length c) := by rw [← hW]; simp
  rw [hW] at hbw
  have hwz : w.heap.size < W.heap.size := by omega
  have hKz : K < W.heap.size := by omega
  have hg := ha.keep (keep_of_below hbw)
  unfold lgv at hlc ⊢
  clear b0 b1
  have HWe := Lib.hid hW
  have HKe := Lib.hid hK
  have X0 := Lib.hid x0
  have X1 := Lib.hid x1
  clear hW hK x0 x1
  have Hbw := Lib.hid hbw
  have Hg := Lib.hid hg
  have HWz := Lib.hid hWz
  have Ha := Lib.hid ha
  clear hbw hg hWz ha
  cases h1 : leagueOk n rs
  · have hno : amongOk n rs s = false := by rw [amongOk, h1]; rfl
    simp only [h1] at hlc
    have Hlc := Lib.hid hlc
    have Hno := Lib.hid hno
    have H1 := Lib.hid h1
    clear hlc hno h1
    go_enter Try.func63, Try.ntmps63
    go_wp2_with (go_at_call 44; rw [HWe.out]; refine (Hlc.out _ Hg.out).mono ?_; rintro e w2 ⟨rfl, hb2⟩; (have p0 := (hb2.cell (p := ⟨K, 0, none⟩) hKz).trans w0); (have p1 := (hb2.cell (p := ⟨K, 1, none⟩) hKz).trans w1); (have q0 := (hb2.frozen (p := ⟨K, 0, none⟩) hKz).trans y0); (have q1 := (hb2.frozen (p := ⟨K, 1, none⟩) hKz).trans y1); (have x0 := (hb2.cell (p := ⟨w.heap.size, 0, none⟩) hwz).trans X0.out); (have x1 := (hb2.cell (p := ⟨w.heap.size, 1, none⟩) hwz).trans X1.out); have Hw := Lib.hid (Hbw.out.trans (hb2.mono Hbw.out.size)); (have hKz2 := Nat.lt_of_lt_of_le hKz hb2.size); (have hwz2 := Nat.lt_of_lt_of_le hwz hb2.size); clear hb2; simp only [HKe.out])
    obtain ⟨r0, r1⟩ := write2 (B := 0) (u := .int .i64 0) (v := .slice none 0 0) p0 p1
    refine bodyPost_ret (v := .tuple #[.agg #[.int .i64 0, .slice none 0 0], .bool false]) (by simp [results, Try.results63, go_sem, r0, r1]) rfl ⟨?_, .inl ⟨Hno.out, rfl⟩⟩
    first | exact (Hw.out.setCell (p := ⟨K, 0, none⟩) hKw _).setCell (p := ⟨K, 1, none⟩) hKw _ | exact ((Hw.out.trans (below_drewN _ _ _)).setCell (p := ⟨K, 0, none⟩) hKw _).setCell (p := ⟨K, 1, none⟩) hKw _
  · have hL := league_of h1
    have hn8 := hL.eight
    obtain ⟨n, rfl⟩ := Int.eq_ofNat_of_zero_le (show 0 ≤ n by have := hL.two; omega)
    obtain ⟨N, hN⟩ : ∃ N, 2 ^ n = N := ⟨_, rfl⟩
    have hN256 : N ≤ 256 := by rw [← hN]; exact Nat.pow_le_pow_right (by decide) (by omega : n ≤ 8)
    have hN1 : 1 ≤ N := by rw [← hN]; exact Nat.one_le_two_pow
    have e0 : wrap64 ((2 : Int) ^ n) = (N : Int) := pow_wrap hN (by omega)
    have e1 : IntKind.i64.wrap ((N : Int) - 1) = (N : Int) - 1 := IntWalk.i64_in _ (by omega)
    simp only [h1] at hlc
    cases hin : inR s 0 ((N : Int) - 1)
    · have hno : amongOk n rs s = false := by rw [amongOk, h1, Int.toNat_natCast, hN, hin]; rfl
      have Hlc := Lib.hid hlc
      have Hno := Lib.hid hno
      have H1 := Lib.hid h1
      have Hin := Lib.hid hin
      have HN := Lib.hid hN
      have HL := Lib.hid hL
      clear hlc hno h1 hin hN hL
      go_enter Try.func63, Try.ntmps63
      go_wp2_with (first | (go_at_call 44; rw [HWe.out]; refine (Hlc.out _ Hg.out).mono ?_; rintro e w2 ⟨rfl, hb2⟩; (have p0 := (hb2.cell (p := ⟨K, 0, none⟩) hKz).trans w0); (have p1 := (hb2.cell (p := ⟨K, 1, none⟩) hKz).trans w1); (have q0 := (hb2.frozen (p := ⟨K, 0, none⟩) hKz).trans y0); (have q1 := (hb2.frozen (p := ⟨K, 1, none⟩) hKz).trans y1); (have x0 := (hb2.cell (p := ⟨w.heap.size, 0, none⟩) hwz).trans X0.out); (have x1 := (hb2.cell (p := ⟨w.heap.size, 1, none⟩) hwz).trans X1.out); have Hw := Lib.hid (Hbw.out.trans (hb2.mono Hbw.out.size)); (have hKz2 := Nat.lt_of_lt_of_le hKz hb2.size); (have hwz2 := Nat.lt_of_lt_of_le hwz hb2.size); clear hb2; simp only [HKe.out]) | (go_at_call 79; refine (calls_v (within_c _ _ _ _) (congrArg Value.bool Hin.out)).mono ?_; rintro e w3 ⟨rfl, hq3⟩; (have hb3 := hq3.below w2.heap.size); (have p0 := (hb3.cell (p := ⟨K, 0, none⟩) hKz2).trans p0); (have p1 := (hb3.cell (p := ⟨K, 1, none⟩) hKz2).trans p1); (have q0 := (hb3.frozen (p := ⟨K, 0, none⟩) hKz2).trans q0); (have q1 := (hb3.frozen (p := ⟨K, 1, none⟩) hKz2).trans q1); (have x0 := (hb3.cell (p := ⟨w.heap.size, 0, none⟩) hwz2).trans x0); (have x1 := (hb3.cell (p := ⟨w.heap.size, 1, none⟩) hwz2).trans x1); have Hw := Lib.hid (Hw.out.trans (hb3.mono Hw.out.size)); (have hKz2 := Nat.lt_of_lt_of_le hKz2 hb3.size); (have hwz2 := Nat.lt_of_lt_of_le hwz2 hb3.size); clear hb3 hq3))
      obtain ⟨r0, r1⟩ := write2 (B := 0) (u := .int .i64 0) (v := .slice none 0 0) p0 p1
      refine bodyPost_ret (v := .tuple #[.agg #[.int .i64 0, .slice none 0 0], .bool false]) (by simp [results, Try.results63, go_sem, r0, r1]) rfl ⟨?_, .inl ⟨Hno.out, rfl⟩⟩
      first | exact (Hw.out.setCell (p := ⟨K, 0, none⟩) hKw _).setCell (p := ⟨K, 1, none⟩) hKw _ | exact ((Hw.out.trans (below_drewN _ _ _)).setCell (p := ⟨K, 0, none⟩) hKw _).setCell (p := ⟨K, 1, none⟩) hKw _
    · obtain ⟨hs0, hs1⟩ := inR_true hin
      have hyes : amongOk n rs s = true := by rw [amongOk, h1, Int.toNat_natCast, hN, hin]; rfl
      obtain ⟨S, rfl⟩ := Int.eq_ofNat_of_zero_le hs0
      have hS : S < 2 ^ n := by rw [hN]; omega
      have hS8 : S < 256 := by omega
      have hm60 := hL.few
      have hrs := hL.ok
      obtain ⟨i0, hi0, hi1, hi2, hi3⟩ := info_res2
      obtain ⟨m, hm2⟩ : ∃ m, rs.length = m := ⟨_, rfl⟩
      rw [hm2] at hm60 hm hlc HWe X1 ⊢
      have Hm := Lib.hid hm2
      have Hrs := Lib.hid hrs
      clear hm2 hrs
      have Hlc := Lib.hid hlc
      have Hyes := Lib.hid hyes
      have H1 := Lib.hid h1
      have Hin := Lib.hid hin
      have HN := Lib.hid hN
      have HL := Lib.hid hL
      have HS := Lib.hid hS
      clear hlc hyes h1 hin hN hL hS
      go_enter Try.func63, Try.ntmps63
      go_wp2_with (first | (go_at_call 44; rw [HWe.out]; refine (Hlc.out _ Hg.out).mono ?_; rintro e w2 ⟨rfl, hb2⟩; (have p0 := (hb2.cell (p := ⟨K, 0, none⟩) hKz).trans w0); (have p1 := (hb2.cell (p := ⟨K, 1, none⟩) hKz).trans w1); (have q0 := (hb2.frozen (p := ⟨K, 0, none⟩) hKz).trans y0); (have q1 := (hb2.frozen (p := ⟨K, 1, none⟩) hKz).trans y1); (have x0 := (hb2.cell (p := ⟨w.heap.size, 0, none⟩) hwz).trans X0.out); (have x1 := (hb2.cell (p := ⟨w.heap.size, 1, none⟩) hwz).trans X1.out); have Hw := Lib.hid (Hbw.out.trans (hb2.mono Hbw.out.size)); (have hKz2 := Nat.lt_of_lt_of_le hKz hb2.size); (have hwz2 := Nat.lt_of_lt_of_le hwz hb2.size); clear hb2; simp only [HKe.out]) | (go_at_call 79; refine (calls_v (within_c _ _ _ _) (congrArg Value.bool Hin.out)).mono ?_; rintro e w3 ⟨rfl, hq3⟩; (have hb3 := hq3.below w2.heap.size); (have p0 := (hb3.cell (p := ⟨K, 0, none⟩) hKz2).trans p0); (have p1 := (hb3.cell (p := ⟨K, 1, none⟩) hKz2).trans p1); (have q0 := (hb3.frozen (p := ⟨K, 0, none⟩) hKz2).trans q0); (have q1 := (hb3.frozen (p := ⟨K, 1, none⟩) hKz2).trans q1); (have x0 := (hb3.cell (p := ⟨w.heap.size, 0, none⟩) hwz2).trans x0); (have x1 := (hb3.cell (p := ⟨w.heap.size, 1, none⟩) hwz2).trans x1); have Hw := Lib.hid (Hw.out.trans (hb3.mono Hw.out.size)); (have hKz2 := Nat.lt_of_lt_of_le hKz2 hb3.size); (have hwz2 := Nat.lt_of_lt_of_le hwz2 hb3.size); clear hb3 hq3))
      obtain ⟨B, hB⟩ : ∃ B, w3.heap.size = B := ⟨_, rfl⟩
      have hKB : K < B := by omega
      have HbW := Hw
      have HBW : Hid (w3.heap.size = B) := Lib.hid hB
      have V0 := Lib.hid p0
      have V1 := Lib.hid p1
      have Z0 := Lib.hid q0
      have Z1 := Lib.hid q1
      simp only [hB]
      have hat0 : (w3.alloc (.cells #[.int .i64 (n : Int), .slice none 0 0] 29)).cell? ⟨B, 0, none⟩ = some (.int .i64 (n : Int)) := by rw [← HBW.out]; simp
      have hat1 : (w3.alloc (.cells #[.int .i64 (n : Int), .slice none 0 0] 29)).cell? ⟨B, 1, none⟩ = some (.slice none 0 0) := by rw [← HBW.out]; simp
      have hatz : (w3.alloc (.cells #[.int .i64 (n : Int), .slice none 0 0] 29)).frozen? ⟨B, 1, none⟩ = false := by rw [← HBW.out]; simp
      have Hat0 := Lib.hid hat0
      have Hat1 := Lib.hid hat1
      have Hatz := Lib.hid hatz
      clear hat0 hat1 hatz p0 p1 q0 q1 w0 w1 y0 y1 x0 x1
      go_loopw [28] (fun i wr => ∃ (j : Nat) (A1 : Option Addr) (d1 : Nat), j ≤ m ∧ i = .int .i64 j ∧ wr.cell? ⟨B, 0, none⟩ = some (.int .i64 (n : Int)) ∧ wr.cell? ⟨B, 1, none⟩ = some (.slice A1 (amongF S (rs.take j)).length d1) ∧ wr.frozen? ⟨B, 1, none⟩ = false ∧ B < wr.heap.size ∧ OwnG (B + 1) wr A1 d1 (amongF S (rs.take j)) ∧ Below w3.heap.size w3 wr) (fun i _ => m - (intOf i).toNat)
      case atStart => exact ⟨0, none, 0, Nat.zero_le _, rfl, Hat0.out, Hat1.out, Hatz.out, by rw [← HBW.out]; simp, OwnG.nil _ _, (Below.refl _ _).alloc (Nat.le_refl _) _⟩
      case round =>
        clear Hat0 Hat1 Hatz
        obtain ⟨j, A1, d1, hj, rfl, hc0, hc1, hz1, hBz, ho, hb⟩ := hrel
        have Ho := Lib.hid ho
        have Hb := Lib.hid hb
        clear ho hb
        by_cases hlt : j < m
        · have hji : (j : Int) < (m : Int) := by omega
          obtain ⟨r, hr⟩ := some_of (l := rs) (k := j) (by rw [Hm.out]; exact hlt)
          have hro := resOk_of (Hrs.out r (List.mem_of_getElem? hr))
          obtain ⟨ad, rfl, a0, a1, a2, a3⟩ := (Ha.out.keep (keep_of_below (HbW.out.trans (Hb.out.mono HbW.out.size)))) j _ hr
          have hstep : amongF S (rs.take (j + 1)) = amongF S (rs.take j) ++ (if (inSet S r.h && inSet S r.a) = true then [r] else []) := by
            rw [take_of hr, amongF, amongF, List.filter_append]; congr 1; simp only [List.filter_cons, List.filter_nil]
          have hrj : (amongF S (rs.take j)).length ≤ 60 := Nat.le_trans (List.length_filter_le _ _) (by rw [List.length_take]; omega)
          obtain ⟨L, hL⟩ : ∃ L, amongF S (rs.take j) = L := ⟨_, rfl⟩
          rw [hL] at hstep hrj hc1
          have ho' : OwnG (B + 1) wr A1 d1 L := by have := Ho.out; rwa [hL] at this
          obtain ⟨rh, ra, rg, rt⟩ := r
          obtain ⟨h, eh⟩ := Int.eq_ofNat_of_zero_le hro.h0
          obtain ⟨a, ea⟩ := Int.eq_ofNat_of_zero_le hro.a0
          simp only at eh ea a0 a1 a2 a3 hstep
          subst eh ea
          have hh8 : h < 8 := by have := hro.hn; simp only at this; omega
          have ha8 : a < 8 := by have := hro.an; simp only at this; omega
          obtain ⟨u, hu⟩ : ∃ u, S / 2 ^ h = u := ⟨_, rfl⟩
          have hu256 : u < 256 := by rw [← hu]; exact Nat.lt_of_le_of_lt (Nat.div_le_self _ _) hS8
          have f1 : (S : Int) / 2 ^ h = (u : Int) := by rw [← hu]; exact shr_nat S h
          have f2 : bits .and .i64 (u : Int) 1 = ((u % 2 : Nat) : Int) := and_one u (by omega)
          obtain ⟨v, hv⟩ : ∃ v, S / 2 ^ a = v := ⟨_, rfl⟩
          have hv256 : v < 256 := by rw [← hv]; exact Nat.lt_of_le_of_lt (Nat.div_le_self _ _) hS8
          have f3 : (S : Int) / 2 ^ a = (v : Int) := by rw [← hv]; exact shr_nat S a
          have f4 : bits .and .i64 (v : Int) 1 = ((v % 2 : Nat) : Int) := and_one v (by omega)
          have hsu : inSet S (h : Int) = decide (u % 2 = 1) := by rw [inSet, Int.toNat_natCast, hu]
          have hsv : inSet S (a : Int) = decide (v % 2 = 1) := by rw [inSet, Int.toNat_natCast, hv]
          rw [hsu, hsv] at hstep
          obtain ⟨b0, b1, b2, b3⟩ := box4 wr (.int .i64 (h : Int)) (.int .i64 (a : Int)) (.int .i64 rg) (.int .i64 rt) 47
          have hbr : Below wr.heap.size wr (wr.alloc (.cells #[.int .i64 (h : Int), .int .i64 (a : Int), .int .i64 rg, .int .i64 rt] 47)) := (Below.refl _ _).alloc (Nat.le_refl _) _
          have q0 := keep_of_below hbr _ _ hc0
          have q1 := keep_of_below hbr _ _ hc1
          have y1 := (hbr.frozen (p := ⟨B, 1, none⟩) hBz).trans hz1
          have Hr := Lib.hid hr
          have Hbr := Lib.hid hbr
          have Hu := Lib.hid hu
          have Hv := Lib.hid hv
          have Hsu := Lib.hid hsu
          have Hsv := Lib.hid hsv
          have HL := Lib.hid hL
          clear hr hbr hu hv hsu hsv hL
          clear hro Ho
          by_cases hu1 : u % 2 = 1
          · have f5 : ((u : Int) % 2 == 1) = true := by simp; omega
            by_cases hv1 : v % 2 = 1
            · have f6 : ((v : Int) % 2 == 1) = true := by simp; omega
              have hstep2 : amongF S (rs.take (j + 1)) = L ++ [⟨(h : Int), (a : Int), rg, rt⟩] := by rw [hstep, hu1, hv1]; rfl
              have Hstep := Lib.hid hstep
              have Hstep2 := Lib.hid hstep2
              have Hu1 := Lib.hid hu1
              have Hv1 := Lib.hid hv1
              have Ho' := Lib.hid ho'
              clear hstep hstep2 hu1 hv1 ho'
              go_wp2_with (at_builtin; refine wpList_append_own ((wr.alloc (.cells #[.int .i64 (h : Int), .int .i64 (a : Int), .int .i64 rg, .int .i64 rt] 47)).alloc (.cells #[.int .i64 (h : Int), .int .i64 (a : Int), .int .i64 rg, .int .i64 rt] 47)) rfl (.tmp 47) (.tmp 49) 27 rfl (B + 1) 47 i0 (.agg #[.int .i64 0, .int .i64 0, .int .i64 0, .int .i64 0]) 4 32 Try.underlying27 hi0 hi1 hi2 hi3 rfl (by decide) (.slice A1 L.length d1) L.length (flat L) rfl ((World.ownsRow.alloc Ho'.out _).alloc _) ⟨wr.heap.size + 1, 0, none⟩ 1 1 [.int .i64 (h : Int), .int .i64 (a : Int), .int .i64 rg, .int .i64 rt] rfl rfl ?c1 ?c2 ?c3 ?c4 ?c5 ?_)
              case c1 =>
                intro x y hxy
                rw [addr_zero_add]
                have hsz : (wr.alloc (.cells #[.int .i64 (h : Int), .int .i64 (a : Int), .int .i64 rg, .int .i64 rt] 47)).heap.size = wr.heap.size + 1 := by simp
                have := cell_of_row _ (wr.alloc (.cells #[.int .i64 (h : Int), .int .i64 (a : Int), .int .i64 rg, .int .i64 rt] 47)).heap.size x _ _ _ (heap_alloc_new (wr.alloc (.cells #[.int .i64 (h : Int), .int .i64 (a : Int), .int .i64 rg, .int .i64 rt] 47)) (.cells #[.int .i64 (h : Int), .int .i64 (a : Int), .int .i64 rg, .int .i64 rt] 47))
                rw [hsz] at this
                rw [this]; simpa using hxy
              case c2 =>
                intro x hx
                simp only [List.mem_cons, List.not_mem_nil, or_false] at hx
                rcases hx with rfl | rfl | rfl | rfl <;> rfl
              case c3 => unfold maxLen; omega
              case c4 => omega
              case c5 => simp; omega
              intro v' w2 hown hgr _
              have hfl : flat L ++ [Value.int .i64 (h : Int), .int .i64 (a : Int), .int .i64 rg, .int .i64 rt] = flat (L ++ [⟨(h : Int), (a : Int), rg, rt⟩]) := by rw [flat_append]; rfl
              rw [hfl] at hown
              obtain ⟨g2, d2, hv2, hg2, ho2⟩ := OwnG.of hown (by simp) (by omega)
              have hrow : ∀ k, (Value.slice A1 L.length d1).ownBlock = some k → B < k := fun k hk => by have := (OwnG.block Ho'.out k hk).1; omega
              have hb2 : Below (B + 1) ((wr.alloc (.cells #[.int .i64 (h : Int), .int .i64 (a : Int), .int .i64 rg, .int .i64 rt] 47)).alloc (.cells #[.int .i64 (h : Int), .int .i64 (a : Int), .int .i64 rg, .int .i64 rt] 47)) w2 := (Below.refl _ _).grown hgr (by simp; omega) (fun k hk => by have := hrow k hk; omega)
              have hb0 : Below wr.heap.size wr ((wr.alloc (.cells #[.int .i64 (h : Int), .int .i64 (a : Int), .int .i64 rg, .int .i64 rt] 47)).alloc (.cells #[.int .i64 (h : Int), .int .i64 (a : Int), .int .i64 rg, .int .i64 rt] 47)) := ((Below.refl _ _).alloc (Nat.le_refl _) _).alloc (by simp) _
              have hbx := (hb0.mono (show B + 1 ≤ wr.heap.size by omega)).trans hb2
              have z0 := hbx.cell (p := ⟨B, 0, none⟩) (by show B < B + 1; omega)
              have z1 := hbx.cell (p := ⟨B, 1, none⟩) (by show B < B + 1; omega)
              have z2 := hbx.frozen (p := ⟨B, 1, none⟩) (by show B < B + 1; omega)
              rw [hc0] at z0
              rw [hc1] at z1
              rw [hz1] at z2
              have hzz := hbx.size
              have hBw : w3.heap.size = B := HBW.out
              have hb5 : Below w3.heap.size w3 w2 := Hb.out.trans (hbx.mono (by omega))
              subst hv2
              have Ho2 := Lib.hid ho2
              have Hb5 := Lib.hid hb5
              clear ho2 hb5
              clear hown hgr hb2 hb0 hbx hrow hfl q0 q1 y1 a0 a1 a2 a3 b0 b1 b2 b3 hc0 hc1 hz1
              go_wp2
              go_roundw
              case rel =>
                refine ⟨j + 1, some ⟨g2, 0, none⟩, d2, by omega, by go_num, ?_, ?_, by simpa using z2, by simp [World.setCell]; omega, ?_, Hb5.out.setCell (p := ⟨B, 1, none⟩) (by show w3.heap.size ≤ B; exact Nat.le_of_eq HBW.out) _⟩
                · exact (World.cell?_setCell_other _ ⟨B, 1, none⟩ ⟨B, 0, none⟩ _ (by simp)).trans z0
                · rw [Hstep2.out, List.length_append]; exact World.cell?_setCell_same _ _ _ z1
                · rw [Hstep2.out]; exact Ho2.out.set_ (by omega) _
              case measure => simp [intOf]; omega
            · have f6 : ((v : Int) % 2 == 1) = false := by simp; omega
              have hstep2 : amongF S (rs.take (j + 1)) = L := by rw [hstep, decide_eq_false hv1, Bool.and_false]; simp
              have ho3 := ho'.stay Hbr.out
              have hb3 := Hb.out.trans (Hbr.out.mono Hb.out.size)
              have Hstep := Lib.hid hstep
              have Hstep2 := Lib.hid hstep2
              have Hu1 := Lib.hid hu1
              have Hv1 := Lib.hid hv1
              have Ho' := Lib.hid ho'
              have Ho3 := Lib.hid ho3
              have Hb3 := Lib.hid hb3
              clear hstep hstep2 hu1 hv1 ho' ho3 hb3
              go_wp2
              go_roundw
              case rel => exact ⟨j + 1, A1, d1, by omega, by go_num, q0, by rw [Hstep2.out]; exact q1, y1, by simp; omega, by rw [Hstep2.out]; exact Ho3.out, Hb3.out⟩
              case measure => simp [intOf]; omega
          · have f5 : ((u : Int) % 2 == 1) = false := by simp; omega
            have hstep2 : amongF S (rs.take (j + 1)) = L := by rw [hstep, decide_eq_false hu1, Bool.false_and]; simp
            have ho3 := ho'.stay Hbr.out
            have hb3 := Hb.out.trans (Hbr.out.mono Hb.out.size)
            have Hstep := Lib.hid hstep
            have Hstep2 := Lib.hid hstep2
            have Hu1 := Lib.hid hu1
            have Ho' := Lib.hid ho'
            have Ho3 := Lib.hid ho3
            have Hb3 := Lib.hid hb3
            clear hstep hstep2 hu1 ho' ho3 hb3
            go_wp2
            go_roundw
            case rel => exact ⟨j + 1, A1, d1, by omega, by go_num, q0, by rw [Hstep2.out]; exact q1, y1, by simp; omega, by rw [Hstep2.out]; exact Ho3.out, Hb3.out⟩
            case measure => simp [intOf]; omega
        · obtain rfl : j = m := by omega
          have hall : amongF S (rs.take j) = amongF S rs := by rw [List.take_of_length_le (by rw [Hm.out]; exact Nat.le_refl _)]
          rw [hall] at hc1
          have ho2 : OwnG (B + 1) wr A1 d1 (amongF S rs) := by have := Ho.out; rwa [hall] at this
          have hBw : w3.heap.size = B := HBW.out
          have v0 := (Hb.out.cell (p := ⟨K, 0, none⟩) (by show K < w3.heap.size; omega)).trans V0.out
          have v1 := (Hb.out.cell (p := ⟨K, 1, none⟩) (by show K < w3.heap.size; omega)).trans V1.out
          have z0 := (Hb.out.frozen (p := ⟨K, 0, none⟩) (by show K < w3.heap.size; omega)).trans Z0.out
          have z1 := (Hb.out.frozen (p := ⟨K, 1, none⟩) (by show K < w3.heap.size; omega)).trans Z1.out
          have hKB : K < B := by omega
          have hbf := HbW.out.trans (Hb.out.mono HbW.out.size)
          have Ho2 := Lib.hid ho2
          have Hbf := Lib.hid hbf
          clear ho2 hbf
          clear hall hBw Ho Hb
          go_wp2
          obtain ⟨r0, r1⟩ := write2 (B := 0) (u := .int .i64 (n : Int)) (v := .slice A1 (amongF S rs).length d1) v0 v1
          exact bodyPost_ret (v := .tuple #[.agg #[.int .i64 (n : Int), .slice A1 (amongF S rs).length d1], .bool true]) (by simp [results, Try.results63, go_sem, r0, r1]) rfl ⟨(Hbf.out.setCell (p := ⟨K, 0, none⟩) hKw _).setCell (p := ⟨K, 1, none⟩) hKw _, .inr ⟨Hyes.out, A1, d1, rfl, ((Ho2.out.set_ (by omega) _).set_ (by omega) _).games⟩⟩

end Go.Proofs.Ytehlijpjcjegcaa
