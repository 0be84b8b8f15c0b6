/- Contracts: a drawn league (reference's l12Draw, MakeLeague). -/
import Derived.Test.YtehlijpjcjegcaaCur2
import Derived.Test.YtehlijpjcjegcaaAmong
import Derived.Test.YtehlijpjcjegcaaTie
import Derived.Deep.AppendLies
import Derived.Deep.RegionHeld3
namespace Go.Proofs.Ytehlijpjcjegcaa
set_option linter.unusedSimpArgs false
set_option linter.unusedVariables false
open Go.RowKit

/-- A drawn league. -/
def Drawn (n : Nat) (rs : List Res) : Prop := ∀ r ∈ rs, (0 ≤ r.h ∧ r.h < (n : Int)) ∧ (0 ≤ r.a ∧ r.a < (n : Int)) ∧ r.h ≠ r.a ∧ (0 ≤ r.g ∧ r.g ≤ 3) ∧ (0 ≤ r.t ∧ r.t ≤ 3)
theorem drawn_ok {n : Nat} {rs : List Res} (h2 : 2 ≤ n) (h6 : n ≤ 6) (hm : rs.length ≤ 11) (h : Drawn n rs) : leagueOk (n : Int) rs = true := by
  simp only [leagueOk, Bool.and_eq_true, decide_eq_true_eq, List.all_eq_true, inR]
  refine ⟨by omega, by omega, fun r hr => ?_⟩
  obtain ⟨⟨a, b⟩, ⟨c, d⟩, e, ⟨f, g⟩, ⟨i, j⟩⟩ := h r hr
  simp only [resOk, Bool.and_eq_true, decide_eq_true_eq, inR, Bool.not_eq_true', beq_eq_false_iff_ne, ne_eq]
  omega
theorem Drawn.add {n : Nat} {rs : List Res} (h : Drawn n rs) {a b g t : Int} (ha : 0 ≤ a ∧ a < (n : Int)) (hb : 0 ≤ b ∧ b < (n : Int)) (hab : a ≠ b) (hg : 0 ≤ g ∧ g ≤ 3) (ht : 0 ≤ t ∧ t ≤ 3) : Drawn n (rs ++ [⟨a, b, g, t⟩]) := fun r hr => by
  rcases List.mem_append.1 hr with hr | hr
  · exact h r hr
  · rw [List.mem_singleton] at hr
    subst hr
    exact ⟨ha, hb, hab, hg, ht⟩
def ALg (w : World) (e : Ending) (w' : World) : Prop := ∃ (n c : Nat) (A : Option Addr) (rs : List Res), e = .returned (lgv n A rs.length c) ∧ Games w' A rs ∧ leagueOk (n : Int) rs = true ∧ 2 ≤ n ∧ n ≤ 6 ∧ rs.length ≤ 11 ∧ Below w.heap.size w w' ∧ ∀ a, A = some a → w.heap.size ≤ a.block
theorem next_club {n a q : Nat} (h2 : 2 ≤ n) (ha : a < n) (hq : q + 1 < n) : ∃ b : Nat, (((a : Int) + 1 + (q : Int)).tmod (n : Int) = (b : Int)) ∧ b < n ∧ a ≠ b := by
  refine ⟨(a + 1 + q) % n, ?_, Nat.mod_lt _ (by omega), ?_⟩
  · rw [Int.tmod_eq_emod_of_nonneg (by omega), Int.natCast_emod]
    congr 1
  · by_cases h : a + 1 + q < n
    · rw [Nat.mod_eq_of_lt h]; omega
    · rw [Nat.mod_eq_sub_mod (by omega), Nat.mod_eq_of_lt (by omega)]; omega
theorem OwnG.from {B : Nat} {w : World} {A : Option Addr} {c : Nat} {rs : List Res} (h : OwnG B w A c rs) : ∀ a, A = some a → B ≤ a.block := fun a e => by
  subst e
  exact (h.block (n := 0) a.block rfl).1
theorem games_set {w : World} {A : Option Addr} {rs : List Res} {b j : Nat} (h : Games w A rs) (hA : ∀ a, A = some a → b < a.block) (v : Value) : Games (w.setCell ⟨b, j, none⟩ v) A rs := fun k r hr => by
  obtain ⟨ad, e, h0, h1, h2, h3⟩ := h k r hr
  have hb := hA ad e
  have hbk : (ad.add (k * 4)).block = ad.block := by unfold Addr.add; split <;> rfl
  have hne : ∀ p : Addr, p.block = ad.block → ⟨b, j, none⟩ ≠ p := fun p hp e => by rw [← e] at hp; simp only at hp; omega
  exact ⟨ad, e, (World.cell?_setCell_other w ⟨b, j, none⟩ _ v (hne _ hbk)).trans h0, (World.cell?_setCell_other w ⟨b, j, none⟩ ⟨(ad.add (k * 4)).block, _, none⟩ v (hne _ hbk)).trans h1, (World.cell?_setCell_other w ⟨b, j, none⟩ ⟨(ad.add (k * 4)).block, _, none⟩ v (hne _ hbk)).trans h2, (World.cell?_setCell_other w ⟨b, j, none⟩ ⟨(ad.add (k * 4)).block, _, none⟩ v (hne _ hbk)).trans h3⟩
theorem OwnG.only {B lo hi : Nat} {w w' : World} {A : Option Addr} {c : Nat} {rs : List Res} (h : OwnG B w A c rs) (k : Only lo hi w w') (hd : hi ≤ B) : OwnG B w' A c rs := by
  obtain ⟨hl, h4⟩ := h
  refine ⟨hl, ?_⟩
  rcases h4 with h4 | ⟨g, cap, cur, hv, hbg, hg, r⟩
  · exact .inl h4
  · exact .inr ⟨g, cap, cur, hv, hbg, by rw [k.block g (Array.getElem?_eq_some_iff.1 hg).1 (by omega)]; exact hg, r⟩
theorem only_cell {lo hi : Nat} {w w' : World} (h : Only lo hi w w') {p : Addr} (hp : p.block < w.heap.size) (hd : p.block < lo ∨ hi ≤ p.block) : w'.cell? p = w.cell? p :=
  World.cell?_of_block (h.block _ hp hd)
theorem only_frozen {lo hi : Nat} {w w' : World} (h : Only lo hi w w') {p : Addr} (hp : p.block < w.heap.size) (hd : p.block < lo ∨ hi ≤ p.block) : w'.frozen? p = w.frozen? p :=
  World.frozen?_of_block (h.block _ hp hd)

/-- What the loop keeps. -/
structure LgAt (g : Nat) (A : Option Addr) (m c n R X : Nat) (w0 w : World) (A1 : Option Addr) (c1 : Nat) (rs : List Res) : Prop where
  cur : Cur w g A m c
  x0 : w.cell? ⟨X, 0, none⟩ = some (.int .i64 (n : Int))
  x1 : w.cell? ⟨X, 1, none⟩ = some (.slice A1 rs.length c1)
  z1 : w.frozen? ⟨X, 1, none⟩ = false
  r0 : w.cell? ⟨R, 0, none⟩ = some (.int .i64 0)
  r1 : w.cell? ⟨R, 1, none⟩ = some (.slice none 0 0)
  q0 : w.frozen? ⟨R, 0, none⟩ = false
  q1 : w.frozen? ⟨R, 1, none⟩ = false
  own : OwnG (X + 1) w A1 c1 rs
  below : Below w0.heap.size w0 w
  lt : X < w.heap.size
  drawn : Drawn n rs
theorem LgAt.only {g : Nat} {A : Option Addr} {m c n R X : Nat} {w0 w w' : World} {A1 : Option Addr} {c1 : Nat} {rs : List Res} (h : LgAt g A m c n R X w0 w A1 c1 rs) (hR : g < R) (hX : R < X) (hg : w0.heap.size ≤ g) (hc : Cur w' g A m c) (k : Only g (g + 1) w w') :
    LgAt g A m c n R X w0 w' A1 c1 rs := by
  have hx := h.lt
  exact ⟨hc, (only_cell k (by show X < _; omega) (.inr (by show g + 1 ≤ X; omega))).trans h.x0, (only_cell k (by show X < _; omega) (.inr (by show g + 1 ≤ X; omega))).trans h.x1,
    (only_frozen k (by show X < _; omega) (.inr (by show g + 1 ≤ X; omega))).trans h.z1, (only_cell k (by show R < _; omega) (.inr (by show g + 1 ≤ R; omega))).trans h.r0,
    (only_cell k (by show R < _; omega) (.inr (by show g + 1 ≤ R; omega))).trans h.r1, (only_frozen k (by show R < _; omega) (.inr (by show g + 1 ≤ R; omega))).trans h.q0,
    (only_frozen k (by show R < _; omega) (.inr (by show g + 1 ≤ R; omega))).trans h.q1, h.own.only k (by omega), only_new k h.below hg, Nat.lt_of_lt_of_le hx k.size, h.drawn⟩
theorem LgAt.stay {g : Nat} {A : Option Addr} {m c n R X : Nat} {w0 w w' : World} {A1 : Option Addr} {c1 : Nat} {rs : List Res} (h : LgAt g A m c n R X w0 w A1 c1 rs) (hR : g < R) (hX : R < X) (k : Below w.heap.size w w') :
    LgAt g A m c n R X w0 w' A1 c1 rs := by
  have hx := h.lt
  exact ⟨h.cur.below (k.mono (by omega)), (k.cell (p := ⟨X, 0, none⟩) hx).trans h.x0, (k.cell (p := ⟨X, 1, none⟩) hx).trans h.x1, (k.frozen (p := ⟨X, 1, none⟩) hx).trans h.z1,
    (k.cell (p := ⟨R, 0, none⟩) (Nat.lt_trans hX hx)).trans h.r0, (k.cell (p := ⟨R, 1, none⟩) (Nat.lt_trans hX hx)).trans h.r1, (k.frozen (p := ⟨R, 0, none⟩) (Nat.lt_trans hX hx)).trans h.q0,
    (k.frozen (p := ⟨R, 1, none⟩) (Nat.lt_trans hX hx)).trans h.q1, h.own.stay k, h.below.trans (k.mono h.below.size), Nat.lt_of_lt_of_le hx k.size, h.drawn⟩
/-- Grown by one game, and the new row written into the league. -/
theorem LgAt.grow {g : Nat} {A : Option Addr} {m c n R X : Nat} {w0 w w' : World} {A1 : Option Addr} {c1 : Nat} {rs : List Res} (h : LgAt g A m c n R X w0 w A1 c1 rs) (hR : g < R) (hX : R < X) (hg : w0.heap.size ≤ g) {r : Res} {g2 c2 len : Nat}
    (hgr : w.grownBy w' (Value.slice A1 rs.length c1).ownBlock) (ho : w'.ownsRow (X + 1) 47 4 (.slice (some ⟨g2, 0, none⟩) len c2) len (flat rs ++ r.cs)) (hl : len = rs.length + 1) (hd : Drawn n (rs ++ [r])) :
    LgAt g A m c n R X w0 (w'.setCell ⟨X, 1, none⟩ (.slice (some ⟨g2, 0, none⟩) len c2)) (some ⟨g2, 0, none⟩) c2 (rs ++ [r]) := by
  have hx := h.lt
  have hb : Below (X + 1) w w' := (Below.refl _ _).grown hgr (by omega) (fun k hk => (h.own.block k hk).1)
  have hfl : flat rs ++ r.cs = flat (rs ++ [r]) := by rw [flat_append]; rfl
  rw [hfl] at ho
  have hown : OwnG (X + 1) w' (some ⟨g2, 0, none⟩) c2 (rs ++ [r]) := by rw [OwnG, List.length_append]; subst hl; exact ho
  have hs : Below X w' (w'.setCell ⟨X, 1, none⟩ (.slice (some ⟨g2, 0, none⟩) len c2)) := (Below.refl _ _).setCell (p := ⟨X, 1, none⟩) (Nat.le_refl X) _
  have hbs : Below X w (w'.setCell ⟨X, 1, none⟩ (.slice (some ⟨g2, 0, none⟩) len c2)) := (hb.mono (Nat.le_succ _)).trans hs
  have hlen : (rs ++ [r]).length = len := by rw [List.length_append, hl]; rfl
  exact ⟨h.cur.below (hbs.mono (by omega)),
    (World.cell?_setCell_other _ ⟨X, 1, none⟩ ⟨X, 0, none⟩ _ (by simp)).trans ((hb.cell (p := ⟨X, 0, none⟩) (Nat.lt_succ_self X)).trans h.x0),
    by rw [hlen]; exact World.cell?_setCell_same _ _ _ ((hb.cell (p := ⟨X, 1, none⟩) (Nat.lt_succ_self X)).trans h.x1),
    by have := (hb.frozen (p := ⟨X, 1, none⟩) (Nat.lt_succ_self X)).trans h.z1; simpa using this,
    (hbs.cell (p := ⟨R, 0, none⟩) hX).trans h.r0, (hbs.cell (p := ⟨R, 1, none⟩) hX).trans h.r1, (hbs.frozen (p := ⟨R, 0, none⟩) hX).trans h.q0, (hbs.frozen (p := ⟨R, 1, none⟩) hX).trans h.q1,
    hown.set_ (Nat.lt_succ_self X) _, h.below.trans (hbs.mono (by omega)), by rw [setCell_size]; exact Nat.lt_of_lt_of_le hx hb.size, hd⟩
theorem szA {n : Nat} {w : World} (h : n ≤ w.heap.size) (o : Obj) : n ≤ (w.alloc o).heap.size := Nat.le_trans h (by simp)
theorem szS {n : Nat} {w : World} (h : n ≤ w.heap.size) (a : Addr) (v : Value) : n ≤ (w.setCell a v).heap.size := by rw [setCell_size]; exact h

set_option maxRecDepth 100000 in
set_option maxHeartbeats 4000000 in
theorem l12Draw_c (g : Nat) (A : Option Addr) (m c : Nat) (w0 w : World) (hc : Cur w g A m c) (hb : Byt w0 A m) (hA : ∀ a, A = some a → 0 < m → a.block < g) (hm : m ≤ 1048576) (hg : w0.heap.size ≤ g) (hgz : g < w.heap.size) (hd : Below w0.heap.size w0 w) :
    Calls Try.prog 71 #[.pointer (some ⟨g, 0, none⟩)] w (ALg w0) := by
  obtain ⟨i0, hi0, hi1, hi2, hi3⟩ := info_res2
  obtain ⟨R, hR⟩ : ∃ R, w.heap.size = R := ⟨_, rfl⟩
  have hgR : g < R := by omega
  obtain ⟨w1, hw1⟩ : ∃ w1, w.alloc (.cells #[.int .i64 0, .slice none 0 0] 29) = w1 := ⟨_, rfl⟩
  have hz1 : w1.heap.size = R + 1 := by rw [← hw1, ← hR]; simp
  have r0 : w1.cell? ⟨R, 0, none⟩ = some (.int .i64 0) := by rw [← hw1, ← hR]; simp
  have r1 : w1.cell? ⟨R, 1, none⟩ = some (.slice none 0 0) := by rw [← hw1, ← hR]; simp
  have q0 : w1.frozen? ⟨R, 0, none⟩ = false := by rw [← hw1, ← hR]; simp
  have q1 : w1.frozen? ⟨R, 1, none⟩ = false := by rw [← hw1, ← hR]; simp
  have hb1 : Below w.heap.size w w1 := by rw [← hw1]; exact (Below.refl _ _).alloc (Nat.le_refl _) _
  have hd1 := hd.trans (hb1.mono hd.size)
  have hc1 := hc.below (hb1.mono hgz)
  have hby := l01Below_c g A m c 5 w1 hc1 (hb.keep (keep_of_below hd1)) hA hm (by decide) (by decide)
  have Hw1 := Lib.hid hw1
  have Hby := Lib.hid hby
  have Hb := Lib.hid hb
  have HA := Lib.hid hA
  have Hd1 := Lib.hid hd1
  have HR := Lib.hid hR
  clear hb hA hd hc hc1 hby hd1 hw1 hb1
  go_enter Try.func71, Try.ntmps71
  go_wp2_with fail
  rw [Hw1.out]
  refine Hby.out.mono ?_
  rintro e w2 ⟨x, rfl, hx0, hx1, hcX, hoX⟩
  obtain ⟨x, rfl⟩ := Int.eq_ofNat_of_zero_le hx0
  obtain ⟨n, hn⟩ : ∃ n, 2 + x = n := ⟨_, rfl⟩
  have hn2 : 2 ≤ n := by omega
  have hn6 : n ≤ 6 := by omega
  have e1 : IntKind.i64.wrap (2 + (x : Int)) = (n : Int) := by rw [IntWalk.i64_in _ (by omega)]; omega
  have hd2 := only_new hoX Hd1.out hg
  have hz2 : R < w2.heap.size := by have := hoX.size; omega
  have s0 := (only_cell hoX (p := ⟨R, 0, none⟩) (by show R < _; omega) (.inr (by show g + 1 ≤ R; omega))).trans r0
  have s1 := (only_cell hoX (p := ⟨R, 1, none⟩) (by show R < _; omega) (.inr (by show g + 1 ≤ R; omega))).trans r1
  have f0 := (only_frozen hoX (p := ⟨R, 0, none⟩) (by show R < _; omega) (.inr (by show g + 1 ≤ R; omega))).trans q0
  have f1 := (only_frozen hoX (p := ⟨R, 1, none⟩) (by show R < _; omega) (.inr (by show g + 1 ≤ R; omega))).trans q1
  obtain ⟨X, hX⟩ : ∃ X, w2.heap.size = X := ⟨_, rfl⟩
  rw [hX] at hz2
  have Hw2 := Lib.hid hcX
  have Hd2 := Lib.hid hd2
  have HX := Lib.hid hX
  clear hoX hcX hd2 Hby Hd1 hx0 hx1 r0 r1 q0 q1 Hw1 hz1 HR
  go_wp2_with fail
  have hba : Below w2.heap.size w2 (w2.alloc (.cells #[.int .i64 (n : Int), .slice none 0 0] 29)) := (Below.refl _ _).alloc (Nat.le_refl _) _
  obtain ⟨w3, hw3⟩ : ∃ w3, w2.alloc (.cells #[.int .i64 (n : Int), .slice none 0 0] 29) = w3 := ⟨_, rfl⟩
  have HL3 : Hid (LgAt g A m c n R X w0 w3 none 0 []) := by
    rw [hw3] at hba
    have hRz : R < w2.heap.size := by omega
    refine Lib.hid ⟨Hw2.out.below (hba.mono (by omega)), ?_, ?_, ?_, (hba.cell (p := ⟨R, 0, none⟩) hRz).trans s0, (hba.cell (p := ⟨R, 1, none⟩) hRz).trans s1, (hba.frozen (p := ⟨R, 0, none⟩) hRz).trans f0, (hba.frozen (p := ⟨R, 1, none⟩) hRz).trans f1,
      OwnG.nil _ _, Hd2.out.trans (hba.mono Hd2.out.size), ?_, fun r hr => by simp at hr⟩ <;> rw [← hw3, ← hX] <;> simp
  rw [hw3]
  clear hba hw3 s0 s1 f0 f1 Hw2 Hd2 HX hX
  have hby := l01Below_c g A m c 12 w3 HL3.out.cur (Hb.out.keep (keep_of_below HL3.out.below)) HA.out hm (by decide) (by decide)
  refine hby.mono ?_
  rintro e w4 ⟨k0, rfl, hk0, hk1, hcX, hoX⟩
  obtain ⟨k0, rfl⟩ := Int.eq_ofNat_of_zero_le hk0
  have HL4 := Lib.hid (HL3.out.only hgR hz2 hg hcX hoX)
  clear hby hcX hoX HL3 hk0
  go_wp2_with fail
  go_loopw [4, 5, 6, 7] (fun kv _ _ _ wr => ∃ (j : Nat) (A1 : Option Addr) (c1 : Nat) (rs : List Res), kv = .int .i64 (j : Int) ∧ j + rs.length ≤ 11 ∧ LgAt g A m c n R X w0 wr A1 c1 rs) (fun kv _ _ _ _ => (intOf kv).toNat)
  case atStart => exact ⟨k0, none, 0, [], rfl, by simp; omega, HL4.out⟩
  case round =>
    clear HL4 hk1
    obtain ⟨j, A1, c1, rs, rfl, hj, hL⟩ := hrel
    have HL := Lib.hid hL
    clear hL
    by_cases hj0 : 0 < j
    · have hji : (0 : Int) < (j : Int) := by omega
      have x0 := HL.out.x0
      have hby := l01Below_c g A m c (n : Int) wr HL.out.cur (Hb.out.keep (keep_of_below HL.out.below)) HA.out hm (by omega) (by omega)
      have Hby := Lib.hid hby
      clear hby
      go_wp2_with fail
      refine Hby.out.mono ?_
      rintro e v1 ⟨a, rfl, ha0, ha1, hcX, hoX⟩
      obtain ⟨a, rfl⟩ := Int.eq_ofNat_of_zero_le ha0
      have HL1 := Lib.hid (HL.out.only hgR hz2 hg hcX hoX)
      have HLd := Lib.hid (HL1.out.stay hgR hz2 (belowd v1))
      clear Hby hcX hoX HL x0
      have x1 := HL1.out.x0
      have xd := HLd.out.x0
      have hby := l01Below_c g A m c ((n : Int) - 1) v1.drew HLd.out.cur (Hb.out.keep (keep_of_below HLd.out.below)) HA.out hm (by omega) (by omega)
      have wa : IntKind.i64.wrap ((a : Int) + 1) = (a : Int) + 1 := IntWalk.i64_in _ (by omega)
      have wn : IntKind.i64.wrap ((n : Int) - 1) = (n : Int) - 1 := IntWalk.i64_in _ (by omega)
      have hnz : ((n : Int) == 0) = false := by simp; omega
      have hnz2 : ¬ (n : Int) = 0 := by omega
      have hnz3 : ¬ n = 0 := by omega
      have hnz4 : (n == 0) = false := by simp; omega
      have hnz5 : ¬ (n : Int) = -1 := by omega
      have Hby := Lib.hid hby
      clear hby
      go_wp2_with fail
      (go_region_held3 (fun W' => W'.cell? ⟨X, 0, none⟩ = some (.int .i64 (n : Int)))
        (first | assumption)
        (first
          | (go_at_call 93; refine Hby.out.mono ?_; rintro e v2 ⟨q, rfl, hq0, hq1, hcX, hoX⟩; (obtain ⟨q, rfl⟩ := Int.eq_ofNat_of_zero_le hq0); (have HL2 := Lib.hid (HLd.out.only hgR hz2 hg hcX hoX)); (have x2 := HL2.out.x0); (have wq : IntKind.i64.wrap ((a : Int) + 1 + (q : Int)) = (a : Int) + 1 + (q : Int) := IntWalk.i64_in _ (by omega)); (obtain ⟨b, hbe, hbn, hba⟩ := next_club (n := n) (a := a) (q := q) hn2 (by omega) (by omega)); clear hcX hoX)))
      all_goals
        clear Hby HL1 HLd x1 xd
        have hby := l01Below_c g A m c 4 v2 HL2.out.cur (Hb.out.keep (keep_of_below HL2.out.below)) HA.out hm (by decide) (by decide)
        have Hby := Lib.hid hby
        clear hby
        go_wp2_with fail
        refine Hby.out.mono ?_
        rintro e v3 ⟨gv, rfl, hg0, hg1, hcX, hoX⟩
        have HL3 := Lib.hid (HL2.out.only hgR hz2 hg hcX hoX)
        have HLd := Lib.hid (HL3.out.stay hgR hz2 (belowd v3))
        clear Hby hcX hoX HL2 x2
        have x1 := HLd.out.x1
        have hby := l01Below_c g A m c 4 v3.drew HLd.out.cur (Hb.out.keep (keep_of_below HLd.out.below)) HA.out hm (by decide) (by decide)
        have hzd := HLd.out.lt
        have Hby := Lib.hid hby
        clear hby
        go_wp2_with fail
        refine wp_region_held_drew (S := (fun W' => v3.drew.heap.size ≤ W'.heap.size)) (by kernel_rfl) ?_ (fun hHeld => ?_)
        · (first | assumption | exact Nat.le_refl _ | exact szA (by assumption) _ | exact szS (by assumption) _ _)
        refine wpAnyH_take (i := 0) (v := ?_) (by simp only [List.getElem?_toArray, List.getElem?_cons_succ, List.getElem?_cons_zero]; rfl) (by kernel_rfl) (by kernel_rfl) (by kernel_rfl) (by intro _ _ _ h; exact h) (Or.inl ⟨by rfl, ?_⟩) (by assumption) ?_
        rotate_left
        · (intro w hSw; (try dsimp only at hSw); go_simp; (try with_reducible rfl))
        (try simp only [Act.put, List.setIfInBounds_toArray, List.set_cons_zero, List.set_cons_succ])
        refine wpAnyH_take (i := 2) (v := ?_) (by simp only [List.getElem?_toArray, List.getElem?_cons_succ, List.getElem?_cons_zero]; rfl) (by kernel_rfl) (by kernel_rfl) (by kernel_rfl) (by intro _ _ _ h; exact h) (Or.inl ⟨by rfl, ?_⟩) (by assumption) ?_
        rotate_left
        · (intro w hSw; (try dsimp only at hSw); go_simp; (try with_reducible rfl))
        (try simp only [Act.put, List.setIfInBounds_toArray, List.set_cons_zero, List.set_cons_succ])
        refine wpAnyH_take (i := 3) (v := ?_) (by simp only [List.getElem?_toArray, List.getElem?_cons_succ, List.getElem?_cons_zero]; rfl) (by kernel_rfl) (by kernel_rfl) (by kernel_rfl) (by intro _ _ _ h; exact h) (Or.inl ⟨by rfl, ?_⟩) (by assumption) ?_
        rotate_left
        · (intro w hSw; (try dsimp only at hSw); go_simp; (try with_reducible rfl))
        (try simp only [Act.put, List.setIfInBounds_toArray, List.set_cons_zero, List.set_cons_succ])
        refine wpAnyH_take (i := 4) (v := ?_) (by simp only [List.getElem?_toArray, List.getElem?_cons_succ, List.getElem?_cons_zero]; rfl) (by kernel_rfl) (by kernel_rfl) (by kernel_rfl) (by intro _ _ _ h; exact h) (Or.inl ⟨by rfl, ?_⟩) (by assumption) ?_
        rotate_left
        · (intro w hSw; (try dsimp only at hSw); go_simp; (try with_reducible rfl))
        (try simp only [Act.put, List.setIfInBounds_toArray, List.set_cons_zero, List.set_cons_succ])
        refine wpAnyH_take (i := 5) (v := ?_) (by simp only [List.getElem?_toArray, List.getElem?_cons_succ, List.getElem?_cons_zero]; rfl) (by kernel_rfl) (by kernel_rfl) (by kernel_rfl) (by intro _ _ _ h; exact h) (Or.inl ⟨by rfl, ?_⟩) (by assumption) ?_
        rotate_left
        · (intro w hSw; (try dsimp only at hSw); go_simp; (try with_reducible rfl))
        (try simp only [Act.put, List.setIfInBounds_toArray, List.set_cons_zero, List.set_cons_succ])
        refine wpAnyH_ready (rs := [1, 6]) (by kernel_rfl) (by simp) ?_
        refine AllReadyH.cons (by simp only [List.getElem?_toArray, List.getElem?_cons_succ, List.getElem?_cons_zero]; rfl) (fun K hK => ?_) ?_
        · go_simp
          refine hK.out _ _ ?_ (fun hHeld => ?_)
          · (first | assumption | exact Nat.le_refl _ | exact szA (by assumption) _ | exact szS (by assumption) _ _)
          clear hK K
          (try simp only [Act.put, List.setIfInBounds_toArray, List.set_cons_zero, List.set_cons_succ])
          refine wpAnyH_ready (rs := [6]) (by kernel_rfl) (by simp) ?_
          refine AllReadyH.cons (by simp only [List.getElem?_toArray, List.getElem?_cons_succ, List.getElem?_cons_zero]; rfl) (fun K hK => ?_) ?_
          · (go_simp; go_at_call 93; refine Hby.out.mono ?_; rintro e v4 ⟨tk, rfl, ht0, ht1, hcX, hoX⟩; (have HL4 := Lib.hid (HLd.out.only hgR hz2 hg hcX hoX)); (have y1 := HL4.out.x1); (have ya := fun (o : Obj) => keep_of_below ((Below.refl v4.heap.size v4).alloc (Nat.le_refl _) o) _ _ y1); (have hz4 := hoX.size); clear hcX hoX; go_wp2_with fail)
            refine hK.out _ _ ?_ (fun hHeld => ?_)
            · (first | assumption | exact Nat.le_refl _ | exact szA (by assumption) _ | exact szS (by assumption) _ _)
            clear hK K
            (try simp only [Act.put, List.setIfInBounds_toArray, List.set_cons_zero, List.set_cons_succ])
            refine wpAnyH_take (i := 7) (v := ?_) (by simp only [List.getElem?_toArray, List.getElem?_cons_succ, List.getElem?_cons_zero]; rfl) (by kernel_rfl) (by kernel_rfl) (by kernel_rfl) (by intro _ _ _ h; exact h) (Or.inl ⟨by rfl, ?_⟩) (by assumption) ?_
            rotate_left
            · (intro w hSw; (try dsimp only at hSw); go_simp; (try with_reducible rfl))
            (try simp only [Act.put, List.setIfInBounds_toArray, List.set_cons_zero, List.set_cons_succ])
            refine wpAnyH_ready (rs := [8]) (by kernel_rfl) (by simp) ?_
            refine AllReadyH.cons (by simp only [List.getElem?_toArray, List.getElem?_cons_succ, List.getElem?_cons_zero]; rfl) (fun K hK => ?_) ?_
            · go_simp
              refine hK.out _ _ ?_ (fun hHeld => ?_)
              · (first | assumption | exact Nat.le_refl _ | exact szA (by assumption) _ | exact szS (by assumption) _ _)
              clear hK K
              (try simp only [Act.put, List.setIfInBounds_toArray, List.set_cons_zero, List.set_cons_succ])
              refine wpAnyH_ready (rs := [9]) (by kernel_rfl) (by simp) ?_
              refine AllReadyH.cons (by simp only [List.getElem?_toArray, List.getElem?_cons_succ, List.getElem?_cons_zero]; rfl) (fun K hK => ?_) ?_
              · (refine step_append_lies (v4.alloc (.cells #[.int .i64 (a : Int), .int .i64 (b : Int), .int .i64 gv, .int .i64 tk] 47)) rfl (.tmp 36) (.tmp 43) 27 rfl (X + 1) 47 i0 (.agg #[.int .i64 0, .int .i64 0, .int .i64 0, .int .i64 0]) 4 32 Try.underlying27 hi0 hi1 hi2 hi3 rfl (by decide) (.slice A1 rs.length c1) rs.length (flat rs) rfl (HL4.out.stay hgR hz2 ((Below.refl _ _).alloc (Nat.le_refl _) _)).own ⟨v4.heap.size, 0, none⟩ 1 1 (Res.cs ⟨(a : Int), (b : Int), gv, tk⟩) rfl rfl (World.news_of_block (heap_alloc_new v4 _)) ?_ (by decide) ?_ ?_ ?_ _ rfl ?_; (intro u hu; simp only [Res.cs, List.mem_cons, List.not_mem_nil, or_false] at hu; rcases hu with rfl | rfl | rfl | rfl <;> rfl); (unfold maxLen; omega); omega; (exact szA HL4.out.lt _); intro g2 c2 w6 hown hgr _ hlt6; (have HLa := HL4.out.stay hgR hz2 ((Below.refl v4.heap.size v4).alloc (Nat.le_refl _) (.cells #[.int .i64 (a : Int), .int .i64 (b : Int), .int .i64 gv, .int .i64 tk] 47))); (have hb6 : Below (X + 1) _ w6 := (Below.refl (X + 1) _).grown hgr (szA HL4.out.lt _) (fun k hk => (HLa.own.block k hk).1)); (have y6 := (hb6.cell (p := ⟨X, 1, none⟩) (Nat.lt_succ_self X)).trans HLa.x1); (have f6 := (hb6.frozen (p := ⟨X, 1, none⟩) (Nat.lt_succ_self X)).trans HLa.z1); (have hz6 : v3.drew.heap.size ≤ w6.heap.size := Nat.le_trans (szA hz4 _) hgr.size); (have HLg := Lib.hid (HLa.grow hgR hz2 hg hgr hown rfl (HLa.drawn.add (a := (a : Int)) (b := (b : Int)) (g := gv) (t := tk) (by omega) (by omega) (by omega) (by omega) (by omega)))); clear HLa hb6 hown hgr hlt6)
                refine hK.out _ _ ?_ (fun hHeld => ?_)
                · (first | assumption | exact Nat.le_refl _ | exact szA (by assumption) _ | exact szS (by assumption) _ _)
                clear hK K
                (try simp only [Act.put, List.setIfInBounds_toArray, List.set_cons_zero, List.set_cons_succ])
                refine wpAnyH_take (i := 10) (v := ?_) (by simp only [List.getElem?_toArray, List.getElem?_cons_succ, List.getElem?_cons_zero]; rfl) (by kernel_rfl) (by kernel_rfl) (by kernel_rfl) (by intro _ _ _ h; exact h) (Or.inl ⟨by rfl, ?_⟩) (by assumption) ?_
                rotate_left
                · (intro w hSw; (try dsimp only at hSw); go_simp; (try with_reducible rfl))
                (try simp only [Act.put, List.setIfInBounds_toArray, List.set_cons_zero, List.set_cons_succ])
                refine wpAnyH_ready (rs := [11]) (by kernel_rfl) (by simp) ?_
                refine AllReadyH.cons (by simp only [List.getElem?_toArray, List.getElem?_cons_succ, List.getElem?_cons_zero]; rfl) (fun K hK => ?_) ?_
                · go_simp
                  refine hK.out _ _ ?_ (fun hHeld => ?_)
                  · (first | assumption | exact Nat.le_refl _ | exact szA (by assumption) _ | exact szS (by assumption) _ _)
                  clear hK K
                  (try simp only [Act.put, List.setIfInBounds_toArray, List.set_cons_zero, List.set_cons_succ])
                  refine wpAnyH_done (by kernel_rfl) ?_ _
                  go_wp2
                  go_roundw
                  case rel => exact ⟨j - 1, some ⟨g2, 0, none⟩, c2, rs ++ [⟨(a : Int), (b : Int), gv, tk⟩], by go_num, by rw [List.length_append]; simp; omega, HLg.out⟩
                  case measure => simp [intOf]; omega
                exact AllReadyH.nil
              exact AllReadyH.nil
            exact AllReadyH.nil
          exact AllReadyH.nil
        refine AllReadyH.cons (by simp only [List.getElem?_toArray, List.getElem?_cons_succ, List.getElem?_cons_zero]; rfl) (fun K hK => ?_) ?_
        · (go_simp; go_at_call 93; refine Hby.out.mono ?_; rintro e v4 ⟨tk, rfl, ht0, ht1, hcX, hoX⟩; (have HL4 := Lib.hid (HLd.out.only hgR hz2 hg hcX hoX)); (have y1 := HL4.out.x1); (have ya := fun (o : Obj) => keep_of_below ((Below.refl v4.heap.size v4).alloc (Nat.le_refl _) o) _ _ y1); (have hz4 := hoX.size); clear hcX hoX; go_wp2_with fail)
          refine hK.out _ _ ?_ (fun hHeld => ?_)
          · (first | assumption | exact Nat.le_refl _ | exact szA (by assumption) _ | exact szS (by assumption) _ _)
          clear hK K
          (try simp only [Act.put, List.setIfInBounds_toArray, List.set_cons_zero, List.set_cons_succ])
          refine wpAnyH_take (i := 7) (v := ?_) (by simp only [List.getElem?_toArray, List.getElem?_cons_succ, List.getElem?_cons_zero]; rfl) (by kernel_rfl) (by kernel_rfl) (by kernel_rfl) (by intro _ _ _ h; exact h) (Or.inl ⟨by rfl, ?_⟩) (by assumption) ?_
          rotate_left
          · (intro w hSw; (try dsimp only at hSw); go_simp; (try with_reducible rfl))
          (try simp only [Act.put, List.setIfInBounds_toArray, List.set_cons_zero, List.set_cons_succ])
          refine wpAnyH_ready (rs := [1, 8]) (by kernel_rfl) (by simp) ?_
          refine AllReadyH.cons (by simp only [List.getElem?_toArray, List.getElem?_cons_succ, List.getElem?_cons_zero]; rfl) (fun K hK => ?_) ?_
          · go_simp
            refine hK.out _ _ ?_ (fun hHeld => ?_)
            · (first | assumption | exact Nat.le_refl _ | exact szA (by assumption) _ | exact szS (by assumption) _ _)
            clear hK K
            (try simp only [Act.put, List.setIfInBounds_toArray, List.set_cons_zero, List.set_cons_succ])
            refine wpAnyH_ready (rs := [8]) (by kernel_rfl) (by simp) ?_
            refine AllReadyH.cons (by simp only [List.getElem?_toArray, List.getElem?_cons_succ, List.getElem?_cons_zero]; rfl) (fun K hK => ?_) ?_
            · go_simp
              refine hK.out _ _ ?_ (fun hHeld => ?_)
              · (first | assumption | exact Nat.le_refl _ | exact szA (by assumption) _ | exact szS (by assumption) _ _)
              clear hK K
              (try simp only [Act.put, List.setIfInBounds_toArray, List.set_cons_zero, List.set_cons_succ])
              refine wpAnyH_ready (rs := [9]) (by kernel_rfl) (by simp) ?_
              refine AllReadyH.cons (by simp only [List.getElem?_toArray, List.getElem?_cons_succ, List.getElem?_cons_zero]; rfl) (fun K hK => ?_) ?_
              · (refine step_append_lies (v4.alloc (.cells #[.int .i64 (a : Int), .int .i64 (b : Int), .int .i64 gv, .int .i64 tk] 47)) rfl (.tmp 36) (.tmp 43) 27 rfl (X + 1) 47 i0 (.agg #[.int .i64 0, .int .i64 0, .int .i64 0, .int .i64 0]) 4 32 Try.underlying27 hi0 hi1 hi2 hi3 rfl (by decide) (.slice A1 rs.length c1) rs.length (flat rs) rfl (HL4.out.stay hgR hz2 ((Below.refl _ _).alloc (Nat.le_refl _) _)).own ⟨v4.heap.size, 0, none⟩ 1 1 (Res.cs ⟨(a : Int), (b : Int), gv, tk⟩) rfl rfl (World.news_of_block (heap_alloc_new v4 _)) ?_ (by decide) ?_ ?_ ?_ _ rfl ?_; (intro u hu; simp only [Res.cs, List.mem_cons, List.not_mem_nil, or_false] at hu; rcases hu with rfl | rfl | rfl | rfl <;> rfl); (unfold maxLen; omega); omega; (exact szA HL4.out.lt _); intro g2 c2 w6 hown hgr _ hlt6; (have HLa := HL4.out.stay hgR hz2 ((Below.refl v4.heap.size v4).alloc (Nat.le_refl _) (.cells #[.int .i64 (a : Int), .int .i64 (b : Int), .int .i64 gv, .int .i64 tk] 47))); (have hb6 : Below (X + 1) _ w6 := (Below.refl (X + 1) _).grown hgr (szA HL4.out.lt _) (fun k hk => (HLa.own.block k hk).1)); (have y6 := (hb6.cell (p := ⟨X, 1, none⟩) (Nat.lt_succ_self X)).trans HLa.x1); (have f6 := (hb6.frozen (p := ⟨X, 1, none⟩) (Nat.lt_succ_self X)).trans HLa.z1); (have hz6 : v3.drew.heap.size ≤ w6.heap.size := Nat.le_trans (szA hz4 _) hgr.size); (have HLg := Lib.hid (HLa.grow hgR hz2 hg hgr hown rfl (HLa.drawn.add (a := (a : Int)) (b := (b : Int)) (g := gv) (t := tk) (by omega) (by omega) (by omega) (by omega) (by omega)))); clear HLa hb6 hown hgr hlt6)
                refine hK.out _ _ ?_ (fun hHeld => ?_)
                · (first | assumption | exact Nat.le_refl _ | exact szA (by assumption) _ | exact szS (by assumption) _ _)
                clear hK K
                (try simp only [Act.put, List.setIfInBounds_toArray, List.set_cons_zero, List.set_cons_succ])
                refine wpAnyH_take (i := 10) (v := ?_) (by simp only [List.getElem?_toArray, List.getElem?_cons_succ, List.getElem?_cons_zero]; rfl) (by kernel_rfl) (by kernel_rfl) (by kernel_rfl) (by intro _ _ _ h; exact h) (Or.inl ⟨by rfl, ?_⟩) (by assumption) ?_
                rotate_left
                · (intro w hSw; (try dsimp only at hSw); go_simp; (try with_reducible rfl))
                (try simp only [Act.put, List.setIfInBounds_toArray, List.set_cons_zero, List.set_cons_succ])
                refine wpAnyH_ready (rs := [11]) (by kernel_rfl) (by simp) ?_
                refine AllReadyH.cons (by simp only [List.getElem?_toArray, List.getElem?_cons_succ, List.getElem?_cons_zero]; rfl) (fun K hK => ?_) ?_
                · go_simp
                  refine hK.out _ _ ?_ (fun hHeld => ?_)
                  · (first | assumption | exact Nat.le_refl _ | exact szA (by assumption) _ | exact szS (by assumption) _ _)
                  clear hK K
                  (try simp only [Act.put, List.setIfInBounds_toArray, List.set_cons_zero, List.set_cons_succ])
                  refine wpAnyH_done (by kernel_rfl) ?_ _
                  go_wp2
                  go_roundw
                  case rel => exact ⟨j - 1, some ⟨g2, 0, none⟩, c2, rs ++ [⟨(a : Int), (b : Int), gv, tk⟩], by go_num, by rw [List.length_append]; simp; omega, HLg.out⟩
                  case measure => simp [intOf]; omega
                exact AllReadyH.nil
              exact AllReadyH.nil
            exact AllReadyH.nil
          refine AllReadyH.cons (by simp only [List.getElem?_toArray, List.getElem?_cons_succ, List.getElem?_cons_zero]; rfl) (fun K hK => ?_) ?_
          · go_simp
            refine hK.out _ _ ?_ (fun hHeld => ?_)
            · (first | assumption | exact Nat.le_refl _ | exact szA (by assumption) _ | exact szS (by assumption) _ _)
            clear hK K
            (try simp only [Act.put, List.setIfInBounds_toArray, List.set_cons_zero, List.set_cons_succ])
            refine wpAnyH_ready (rs := [1]) (by kernel_rfl) (by simp) ?_
            refine AllReadyH.cons (by simp only [List.getElem?_toArray, List.getElem?_cons_succ, List.getElem?_cons_zero]; rfl) (fun K hK => ?_) ?_
            · go_simp
              refine hK.out _ _ ?_ (fun hHeld => ?_)
              · (first | assumption | exact Nat.le_refl _ | exact szA (by assumption) _ | exact szS (by assumption) _ _)
              clear hK K
              (try simp only [Act.put, List.setIfInBounds_toArray, List.set_cons_zero, List.set_cons_succ])
              refine wpAnyH_ready (rs := [9]) (by kernel_rfl) (by simp) ?_
              refine AllReadyH.cons (by simp only [List.getElem?_toArray, List.getElem?_cons_succ, List.getElem?_cons_zero]; rfl) (fun K hK => ?_) ?_
              · (refine step_append_lies (v4.alloc (.cells #[.int .i64 (a : Int), .int .i64 (b : Int), .int .i64 gv, .int .i64 tk] 47)) rfl (.tmp 36) (.tmp 43) 27 rfl (X + 1) 47 i0 (.agg #[.int .i64 0, .int .i64 0, .int .i64 0, .int .i64 0]) 4 32 Try.underlying27 hi0 hi1 hi2 hi3 rfl (by decide) (.slice A1 rs.length c1) rs.length (flat rs) rfl (HL4.out.stay hgR hz2 ((Below.refl _ _).alloc (Nat.le_refl _) _)).own ⟨v4.heap.size, 0, none⟩ 1 1 (Res.cs ⟨(a : Int), (b : Int), gv, tk⟩) rfl rfl (World.news_of_block (heap_alloc_new v4 _)) ?_ (by decide) ?_ ?_ ?_ _ rfl ?_; (intro u hu; simp only [Res.cs, List.mem_cons, List.not_mem_nil, or_false] at hu; rcases hu with rfl | rfl | rfl | rfl <;> rfl); (unfold maxLen; omega); omega; (exact szA HL4.out.lt _); intro g2 c2 w6 hown hgr _ hlt6; (have HLa := HL4.out.stay hgR hz2 ((Below.refl v4.heap.size v4).alloc (Nat.le_refl _) (.cells #[.int .i64 (a : Int), .int .i64 (b : Int), .int .i64 gv, .int .i64 tk] 47))); (have hb6 : Below (X + 1) _ w6 := (Below.refl (X + 1) _).grown hgr (szA HL4.out.lt _) (fun k hk => (HLa.own.block k hk).1)); (have y6 := (hb6.cell (p := ⟨X, 1, none⟩) (Nat.lt_succ_self X)).trans HLa.x1); (have f6 := (hb6.frozen (p := ⟨X, 1, none⟩) (Nat.lt_succ_self X)).trans HLa.z1); (have hz6 : v3.drew.heap.size ≤ w6.heap.size := Nat.le_trans (szA hz4 _) hgr.size); (have HLg := Lib.hid (HLa.grow hgR hz2 hg hgr hown rfl (HLa.drawn.add (a := (a : Int)) (b := (b : Int)) (g := gv) (t := tk) (by omega) (by omega) (by omega) (by omega) (by omega)))); clear HLa hb6 hown hgr hlt6)
                refine hK.out _ _ ?_ (fun hHeld => ?_)
                · (first | assumption | exact Nat.le_refl _ | exact szA (by assumption) _ | exact szS (by assumption) _ _)
                clear hK K
                (try simp only [Act.put, List.setIfInBounds_toArray, List.set_cons_zero, List.set_cons_succ])
                refine wpAnyH_take (i := 10) (v := ?_) (by simp only [List.getElem?_toArray, List.getElem?_cons_succ, List.getElem?_cons_zero]; rfl) (by kernel_rfl) (by kernel_rfl) (by kernel_rfl) (by intro _ _ _ h; exact h) (Or.inl ⟨by rfl, ?_⟩) (by assumption) ?_
                rotate_left
                · (intro w hSw; (try dsimp only at hSw); go_simp; (try with_reducible rfl))
                (try simp only [Act.put, List.setIfInBounds_toArray, List.set_cons_zero, List.set_cons_succ])
                refine wpAnyH_ready (rs := [11]) (by kernel_rfl) (by simp) ?_
                refine AllReadyH.cons (by simp only [List.getElem?_toArray, List.getElem?_cons_succ, List.getElem?_cons_zero]; rfl) (fun K hK => ?_) ?_
                · go_simp
                  refine hK.out _ _ ?_ (fun hHeld => ?_)
                  · (first | assumption | exact Nat.le_refl _ | exact szA (by assumption) _ | exact szS (by assumption) _ _)
                  clear hK K
                  (try simp only [Act.put, List.setIfInBounds_toArray, List.set_cons_zero, List.set_cons_succ])
                  refine wpAnyH_done (by kernel_rfl) ?_ _
                  go_wp2
                  go_roundw
                  case rel => exact ⟨j - 1, some ⟨g2, 0, none⟩, c2, rs ++ [⟨(a : Int), (b : Int), gv, tk⟩], by go_num, by rw [List.length_append]; simp; omega, HLg.out⟩
                  case measure => simp [intOf]; omega
                exact AllReadyH.nil
              exact AllReadyH.nil
            exact AllReadyH.nil
          exact AllReadyH.nil
        exact AllReadyH.nil
    · obtain rfl : j = 0 := by omega
      have x0 := HL.out.x0
      have x1 := HL.out.x1
      have r0 := HL.out.r0
      have r1 := HL.out.r1
      have q0 := HL.out.q0
      have q1 := HL.out.q1
      have hok := drawn_ok hn2 hn6 (by omega) HL.out.drawn
      have hbk : ∀ a, A1 = some a → w0.heap.size ≤ a.block := fun a e => by have := HL.out.own.from a e; omega
      have hgm : ∀ u v, Games ((wr.setCell ⟨R, 0, none⟩ u).setCell ⟨R, 1, none⟩ v) A1 rs := fun u v => ((HL.out.own.set_ (by omega) u).set_ (by omega) v).games
      have hbw : ∀ u v, Below w0.heap.size w0 ((wr.setCell ⟨R, 0, none⟩ u).setCell ⟨R, 1, none⟩ v) := fun u v => (HL.out.below.setCell (p := ⟨R, 0, none⟩) (by show w0.heap.size ≤ R; omega) _).setCell (p := ⟨R, 1, none⟩) (by show w0.heap.size ≤ R; omega) _
      have Hok := Lib.hid hok
      have Hgm := Lib.hid hgm
      have Hbw := Lib.hid hbw
      have Hbk := Lib.hid hbk
      clear hok hgm hbw hbk
      clear HL
      go_wp2
      obtain ⟨p0, p1⟩ := write2 (B := R) (u := .int .i64 (n : Int)) (v := .slice A1 rs.length c1) r0 r1
      refine bodyPost_ret (v := .agg #[.int .i64 (n : Int), .slice A1 rs.length c1]) (by simp [results, Try.results71, go_sem, p0, p1]) rfl ?_
      exact ⟨n, c1, A1, rs, rfl, Hgm.out _ _, Hok.out, hn2, hn6, by omega, Hbw.out _ _, Hbk.out⟩

set_option maxHeartbeats 1000000 in
theorem makeLeague_c (A : Option Addr) (m c n : Nat) (w : World) (hb : Byt w A m) (hA : ∀ a, A = some a → 0 < m → a.block < w.heap.size) (hm : m ≤ 1048576) (hn : n ≤ 1000) :
    Calls Try.prog 32 #[.slice A m c, .int .i64 (n : Int)] w (ALg w) := by
  have hba : Below w.heap.size w (w.alloc (.cells #[.int .i64 0, .slice none 0 0] 29)) := (Below.refl _ _).alloc (Nat.le_refl _) _
  obtain ⟨v, hv⟩ : ∃ v, w.alloc (.cells #[.int .i64 0, .slice none 0 0] 29) = v := ⟨_, rfl⟩
  rw [hv] at hba
  have hbv := hb.keep (keep_of_below hba)
  have hnc := l32New_c A m c n v hbv (fun a e h0 => Nat.lt_of_lt_of_le (hA a e h0) hba.size) hm hn
  have r0 : v.cell? ⟨w.heap.size, 0, none⟩ = some (.int .i64 0) := by rw [← hv]; simp
  have r1 : v.cell? ⟨w.heap.size, 1, none⟩ = some (.slice none 0 0) := by rw [← hv]; simp
  have q0 : v.frozen? ⟨w.heap.size, 0, none⟩ = false := by rw [← hv]; simp
  have q1 : v.frozen? ⟨w.heap.size, 1, none⟩ = false := by rw [← hv]; simp
  have hwv : w.heap.size < v.heap.size := by rw [← hv]; simp
  have Hb := Lib.hid hb
  have Hbv := Lib.hid hbv
  have HA := Lib.hid hA
  have Hnc := Lib.hid hnc
  have Hba := Lib.hid hba
  have Hv := Lib.hid hv
  clear hb hbv hA hnc hba hv
  go_enter Try.func32, Try.ntmps32
  go_wp2_with fail
  rw [Hv.out]
  refine Hnc.out.mono ?_
  rintro e w1 ⟨g, rfl, hg1, hg2, hc, hb1⟩
  have s0 := (hb1.cell (p := ⟨w.heap.size, 0, none⟩) hwv).trans r0
  have s1 := (hb1.cell (p := ⟨w.heap.size, 1, none⟩) hwv).trans r1
  have f0 := (hb1.frozen (p := ⟨w.heap.size, 0, none⟩) hwv).trans q0
  have f1 := (hb1.frozen (p := ⟨w.heap.size, 1, none⟩) hwv).trans q1
  have hdr := l12Draw_c g A m c v w1 hc Hbv.out (fun a e h0 => Nat.lt_of_lt_of_le (HA.out a e h0) (Nat.le_trans Hba.out.size hg1)) hm hg1 hg2 hb1
  have Hdr := Lib.hid hdr
  clear hdr
  clear hb1 hc
  go_wp2_with fail
  refine (Hdr.out).mono ?_
  rintro e w2 ⟨k, d, B, rs, rfl, hgm, hok, h2, h6, hl, hb2, hbk⟩
  have hwv1 : w.heap.size < v.heap.size := hwv
  have t0 := (hb2.cell (p := ⟨w.heap.size, 0, none⟩) hwv).trans r0
  have t1 := (hb2.cell (p := ⟨w.heap.size, 1, none⟩) hwv).trans r1
  have p0 := (hb2.frozen (p := ⟨w.heap.size, 0, none⟩) hwv).trans q0
  have p1 := (hb2.frozen (p := ⟨w.heap.size, 1, none⟩) hwv).trans q1
  have hBk : ∀ a, B = some a → w.heap.size < a.block := fun a e => by have := hbk a e; omega
  have hbw := Hba.out.trans (hb2.mono Hba.out.size)
  unfold lgv
  have Hgm := Lib.hid hgm
  have Hok := Lib.hid hok
  have Hb2 := Lib.hid hb2
  have Hbk := Lib.hid hbk
  have HBk := Lib.hid hBk
  have Hbw := Lib.hid hbw
  clear hgm hok hb2 hbk hBk hbw
  clear s0 s1 f0 f1
  go_wp2
  obtain ⟨u0, u1⟩ := write2 (B := w.heap.size) (u := .int .i64 (k : Int)) (v := .slice B rs.length d) t0 t1
  refine bodyPost_ret (v := .agg #[.int .i64 (k : Int), .slice B rs.length d]) (by simp [results, Try.results32, go_sem, u0, u1]) rfl ?_
  exact ⟨k, d, B, rs, rfl, games_set (games_set Hgm.out HBk.out _) HBk.out _, Hok.out, h2, h6, hl, (Hbw.out.setCell (p := ⟨w.heap.size, 0, none⟩) (Nat.le_refl _) _).setCell (p := ⟨w.heap.size, 1, none⟩) (Nat.le_refl _) _, fun a e => Nat.le_of_lt (HBk.out a e)⟩
end Go.Proofs.Ytehlijpjcjegcaa
