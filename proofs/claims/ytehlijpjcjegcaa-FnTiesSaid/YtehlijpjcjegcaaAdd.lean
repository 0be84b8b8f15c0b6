/- Contracts: what a club's results add, club by club (program). -/
import Derived.Test.YtehlijpjcjegcaaLgJ
import Derived.Test.YtehlijpjcjegcaaGrow
import Derived.Deep.RegionHeld3
namespace Go.Proofs.Ytehlijpjcjegcaa
set_option linter.unusedSimpArgs false
set_option linter.unusedVariables false
open Go.RowKit

def put1 (xss : List (List Int)) (k : Nat) (u : Int) : List (List Int) := xss.set k (xss.getD k [] ++ [u])
def addStep (f : Res → Int → Int → Int) (P : List Int) (xss : List (List Int)) (r : Res) : List (List Int) :=
  put1 (put1 xss r.h.toNat (f r r.h (P.getD r.a.toNat 0))) r.a.toNat (f r r.a (P.getD r.h.toNat 0))
def addFold (f : Res → Int → Int → Int) (P : List Int) : List (List Int) → List Res → List (List Int)
  | xss, [] => xss
  | xss, r :: t => addFold f P (addStep f P xss r) t
def addendsF (f : Res → Int → Int → Int) (n : Nat) (rs : List Res) : List (List Int) := addFold f (pointsF n rs) (List.replicate n []) rs
structure Lens (n b : Nat) (xss : List (List Int)) : Prop where
  len : xss.length = n
  row : ∀ xs ∈ xss, xs.length ≤ b
theorem Lens.put {n b : Nat} {xss : List (List Int)} (h : Lens n b xss) {k : Nat} (hk : k < n) (u : Int) : Lens n (b + 1) (put1 xss k u) := by
  obtain ⟨xs, hx⟩ := some_of (l := xss) (k := k) (by rw [h.len]; exact hk)
  refine ⟨by rw [put1, List.length_set]; exact h.len, fun ys hy => ?_⟩
  rcases List.mem_or_eq_of_mem_set hy with hy | rfl
  · have := h.row ys hy; omega
  · rw [List.getD_eq_getElem?_getD, hx]
    have := h.row xs (List.mem_of_getElem? hx)
    simp; omega
/-- What lies below G, and block B, stay. -/
structure Fr (G B : Nat) (w w' : World) : Prop where
  os : w'.os = w.os
  tape : w'.tape = w.tape
  output : w'.output = w.output
  size : w.heap.size ≤ w'.heap.size
  block : ∀ k, k < w.heap.size → (k < G ∨ k = B) → w'.heap[k]? = w.heap[k]?
theorem Fr.trans {G B : Nat} {a b c : World} (h : Fr G B a b) (k : Fr G B b c) : Fr G B a c :=
  ⟨k.os.trans h.os, k.tape.trans h.tape, k.output.trans h.output, Nat.le_trans h.size k.size, fun j hj hd => (k.block j (Nat.lt_of_lt_of_le hj h.size) hd).trans (h.block j hj hd)⟩
theorem Fr.drew (G B : Nat) (w : World) : Fr G B w w.drew := ⟨rfl, rfl, rfl, Nat.le_refl _, fun _ _ _ => rfl⟩
theorem Fr.of_below {G B : Nat} {w w' : World} (h : Below w.heap.size w w') : Fr G B w w' := ⟨h.os, h.tape, h.output, h.size, fun k hk _ => h.block k hk⟩
theorem Fr.alloc (G B : Nat) (w : World) (o : Obj) : Fr G B w (w.alloc o) := Fr.of_below ((Below.refl _ _).alloc (Nat.le_refl _) o)
theorem Fr.setCell {G B : Nat} (w : World) (i : Nat) (v : Value) (hB : G ≠ B) : Fr G B w (w.setCell ⟨G, i, none⟩ v) :=
  ⟨rfl, rfl, rfl, by rw [setCell_size]; exact Nat.le_refl _, fun k hk hd => Below.heap_setCell w _ v k (by
    rcases hd with hd | hd
    · exact Nat.ne_of_lt hd
    · rw [hd]; exact fun e => hB e.symm)⟩
theorem Fr.of_grown {G B : Nat} {w w' : World} {row : Option Nat} (h : w.grownBy w' row) (hr : ∀ g, row = some g → G ≤ g ∧ g ≠ B) : Fr G B w w' :=
  ⟨h.os, h.tape, h.output, h.size, fun k hk hd => h.block k hk (fun e => by have := hr k e.symm; omega)⟩
theorem Fr.cell {G B : Nat} {w w' : World} {p : Addr} {v : Value} (h : Fr G B w w') (hc : w.cell? p = some v) (hd : p.block < G ∨ p.block = B) : w'.cell? p = some v := by
  have h1 := block_lt_of_cell hc
  unfold World.cell? at hc ⊢
  rw [h.block p.block h1 hd]; exact hc
theorem Fr.below {G B : Nat} {v w w' : World} (h : Fr G B w w') (hG : v.heap.size ≤ G) (hb : Below v.heap.size v w) : Below v.heap.size v w' :=
  hb.trans ⟨h.os, h.tape, h.output, h.size, fun k hk => h.block k (Nat.lt_of_lt_of_le hk hb.size) (.inl (Nat.lt_of_lt_of_le hk hG))⟩
theorem Fr.ints {G B : Nat} {w w' : World} {A : Option Addr} {P : List Int} (h : Fr G B w w') (hi' : Ints w A P) (hb : ∀ a, A = some a → a.block < G) : Ints w' A P := fun k u hu => by
  obtain ⟨ad, e, hc⟩ := hi' k u hu
  exact ⟨ad, e, h.cell hc (.inl (by have := hb ad e; unfold Addr.add; split <;> exact this))⟩
theorem keepF {G B : Nat} {wb W W' : World} {pd : Addr} {x y z t v : Value} (h : W.cell? ⟨B, 0, none⟩ = some x ∧ W.cell? ⟨B, 1, none⟩ = some y ∧ W.cell? ⟨B, 2, none⟩ = some z ∧ W.cell? ⟨B, 3, none⟩ = some t ∧ W.cell? pd = some v ∧ Fr G B wb W) (ho : Fr G B W W') (hp : pd.block < G) :
    W'.cell? ⟨B, 0, none⟩ = some x ∧ W'.cell? ⟨B, 1, none⟩ = some y ∧ W'.cell? ⟨B, 2, none⟩ = some z ∧ W'.cell? ⟨B, 3, none⟩ = some t ∧ W'.cell? pd = some v ∧ Fr G B wb W' :=
  ⟨ho.cell h.1 (.inr rfl), ho.cell h.2.1 (.inr rfl), ho.cell h.2.2.1 (.inr rfl), ho.cell h.2.2.2.1 (.inr rfl), ho.cell h.2.2.2.2.1 (.inl hp), h.2.2.2.2.2.trans ho⟩
theorem lastF {G B : Nat} {wb W : World} {pd : Addr} {x y z t v : Value} (h : W.cell? ⟨B, 0, none⟩ = some x ∧ W.cell? ⟨B, 1, none⟩ = some y ∧ W.cell? ⟨B, 2, none⟩ = some z ∧ W.cell? ⟨B, 3, none⟩ = some t ∧ W.cell? pd = some v ∧ Fr G B wb W) : Fr G B wb W := h.2.2.2.2.2
/-- A row's own block is no block of results. -/
theorem row_ne {T T' : TypeId} {lo hi B : Nat} {w : World} {a : Option Addr} {n c : Nat} {us : List Value} {cs : Array Value} (h : Own T lo hi w a c us) (hB : w.heap[B]? = some (.cells cs T' (0, 0))) (hT : T ≠ T') : ∀ g, (Value.slice a n c).ownBlock = some g → lo ≤ g ∧ g ≠ B := fun g e => by
  obtain ⟨_, _, h3⟩ := h
  rcases h3 with ⟨rfl, _⟩ | ⟨g1, cs1, rfl, h1, _, h4, _⟩
  · simp [Value.ownBlock] at e
  · simp only [Value.ownBlock, Option.some.injEq] at e
    subst e
    refine ⟨h1, fun e => ?_⟩
    rw [e, hB] at h4
    injection h4 with h4
    injection h4 with _ h5
    exact hT h5.symm
theorem below_drew (w : World) : Below w.heap.size w w.drew := ⟨rfl, rfl, rfl, Nat.le_refl _, fun _ _ => rfl⟩
theorem only_drew (lo hi : Nat) (w : World) : Only lo hi w w.drew := ⟨rfl, rfl, rfl, Nat.le_refl _, fun _ _ _ => rfl⟩
theorem only_at {lo hi : Nat} {w w' : World} {A : Option Addr} {P : List Int} (h : Only lo hi w w') (hi' : Ints w A P) (hb : ∀ a, A = some a → a.block < lo) : Ints w' A P := fun k u hu => by
  obtain ⟨ad, e, hc⟩ := hi' k u hu
  exact ⟨ad, e, cell_only h hc (.inl (by have := hb ad e; unfold Addr.add; split <;> exact this))⟩
theorem ints_ne2 : (3 : TypeId) ≠ 33 := by decide
theorem inner_nils {T : TypeId} {lo hi : Nat} {w : World} (n : Nat) : Inner T lo hi w (List.replicate n (none, 0)) (List.replicate n []) := by
  refine ⟨by simp, fun k h xs h1 h2 => ?_, fun i j h h' a a' h1 _ h3 _ => ?_⟩
  · rw [List.getElem?_replicate] at h1 h2
    split at h1
    · rename_i hlt
      rw [if_pos hlt] at h2
      injection h1 with h1; injection h2 with h2
      subst h1; subst h2
      exact Own.nil ..
    · cases h1
  · rw [List.getElem?_replicate] at h1
    split at h1
    · injection h1 with h1; subst h1; cases h3
    · cases h1
theorem int_ne_res : (3 : TypeId) ≠ 47 := by decide

set_option maxRecDepth 100000 in
set_option maxHeartbeats 8000000 in
theorem addends_c (f : Res → Int → Int → Int) (cl : Nat) (n : Nat) (A : Option Addr) (c : Nat) (rs : List Res) (w : World) (ha : Games w A rs) (hok : leagueOk n rs = true) (eg : ∀ args w, (callFunc cl args).run Try.prog w = .ok (.enter cl args) w)
    (hf : ∀ (W : World) (r : Res) (k p : Int), r ∈ rs → (k = r.h ∨ k = r.a) → 0 ≤ p → p ≤ 180 → Calls Try.prog cl #[.agg #[.int .i64 r.h, .int .i64 r.a, .int .i64 r.g, .int .i64 r.t], .int .i64 k, .int .i64 p] W (Gives W (.int .i64 (f r k p)))) :
    Calls Try.prog 50 #[lgv n A rs.length c, .func (.func cl) #[] #[]] w (GivesII 3 33 w (addendsF f n rs)) := by
  generalize hR : addendsF f n rs = R
  have HR := Lib.hid hR
  clear hR
  have hL := league_of hok
  have hn8 : n ≤ 8 := by have := hL.eight; omega
  have hm60 := hL.few
  have hrs := hL.ok
  have hlc := fun W (h : Games W A rs) => iLeagueOk_c n A c rs W h (by omega)
  have hpc := fun W (h : Games W A rs) => points_c n A c rs W h hok
  have hPb := ptFold_bnd rs _ 0 (bnd_zeros n 0 (Int.le_refl _)) hL.ok
  rw [show ptFold (List.replicate n 0) rs = pointsF n rs from rfl] at hPb
  rw [hok] at hlc
  have HS : Hid (addFold f (pointsF n rs) (List.replicate n []) rs = R) := Lib.hid (by rw [← HR.out]; rfl)
  generalize pointsF n rs = P at hpc hPb HS
  unfold lgv at hlc hpc ⊢
  obtain ⟨m, hm⟩ : ∃ m, rs.length = m := ⟨_, rfl⟩
  rw [hm] at hm60 hlc hpc hPb ⊢
  have hP180 : ∀ x ∈ P, 0 ≤ x ∧ x ≤ 180 := fun x hx => by have := hPb.bd x hx; omega
  have hPl := hPb.len
  obtain ⟨b0, b1⟩ := box2 w (.int .i64 (n : Int)) (.slice A m c) 29
  have hb1 : Below w.heap.size w (w.alloc (.cells #[.int .i64 (n : Int), .slice A m c] 29)) := (Below.refl _ _).alloc (Nat.le_refl _) _
  have Ha := Lib.hid ha
  have Hm := Lib.hid hm
  have Hrs := Lib.hid hrs
  have Hb1 := Lib.hid hb1
  have Hlc := Lib.hid hlc
  have Hpc := Lib.hid hpc
  have Hf := Lib.hid hf
  have HP180 := Lib.hid hP180
  have HPl := Lib.hid hPl
  clear ha hm hrs hb1 hlc hpc hf hP180 hPl
  clear hL hok HR hPb
  go_enter Try.func50, Try.ntmps50
  go_wp2_with fail
  refine (Hlc.out _ (Ha.out.keep (keep_of_below Hb1.out))).mono ?_
  rintro e w1 ⟨rfl, hb⟩
  have c0 := keep_of_below hb _ _ b0
  have c1 := keep_of_below hb _ _ b1
  have Hb2 := Lib.hid (Hb1.out.trans (hb.mono Hb1.out.size))
  clear hb b0 b1 Hb1
  go_wp2_with fail
  refine (Hpc.out _ (Ha.out.keep (keep_of_below Hb2.out))).mono ?_
  rintro e w2 ⟨Bp, dp, rfl, hop, hb⟩
  have b0 := keep_of_below hb _ _ c0
  have b1 := keep_of_below hb _ _ c1
  have Hb3 := Lib.hid (Hb2.out.trans (hb.mono Hb2.out.size))
  have Hpl2 := Lib.hid (fun (a : Addr) (e : Bp = some a) => show a.block < w2.heap.size from by subst e; exact hop.le.1)
  have Hpi := Lib.hid hop.ints
  clear hb c0 c1 Hb2 hop
  rw [HPl.out]
  go_wp2_with (refine wpList_mk _ rfl (.tmp 15) (.tmp 15) 58 rfl 33 (.slice none 0 0) 24 Try.underlying58 info_ints rfl n ?_ ?_ ?_ ?_ ?_; rfl; rfl; decide; omega; intro w3 homade hb3 hz3; (have c0 := keep_of_below hb3 _ _ b0); (have c1 := keep_of_below hb3 _ _ b1); have Ho := Lib.hid homade; (have Hb4 := Lib.hid (Hb3.out.trans (hb3.mono Hb3.out.size))); (have Hpi3 := Lib.hid (Hpi.out.keep (keep_of_below hb3))); clear homade hb3)
  obtain ⟨G, hG⟩ : ∃ G, w2.heap.size = G := ⟨_, rfl⟩
  have hGw : w.heap.size ≤ G := by rw [← hG]; exact Hb3.out.size
  rw [hG] at Ho hz3 Hpl2
  have hzz : List.replicate n (Value.slice none 0 0) = List.zipWith hdr (List.replicate n ((none : Option Addr), 0)) (List.replicate n []) := by simp [hdr]
  have hoz := Ho.out
  rw [hzz] at hoz
  have Ho1 : Hid (Own2 3 33 G w3.heap.size w3 (some ⟨G, 0, none⟩) n (List.replicate n [])) := Lib.hid ⟨_, hoz, inner_nils n⟩
  clear hzz hoz
  simp only [hG]
  clear Ho Hb3 b0 b1 c0 c1 hG Hpi
  go_loopw [20] (fun i wr => ∃ (k : Nat) (xss : List (List Int)), k ≤ m ∧ i = .int .i64 k ∧ Lens n (2 * k) xss ∧ addFold f P xss (rs.drop k) = R ∧ Own2 3 33 G wr.heap.size wr (some ⟨G, 0, none⟩) n xss ∧ Ints wr Bp P ∧ Below w.heap.size w wr ∧ G < wr.heap.size) (fun i _ => m - (intOf i).toNat)
  case atStart => exact ⟨0, _, Nat.zero_le _, rfl, ⟨by simp, fun xs hx => by rw [List.mem_replicate] at hx; rw [hx.2]; simp⟩, HS.out, Ho1.out, Hpi3.out, Hb4.out, hz3⟩
  case round =>
    clear HS Ho1 Hb4 Hpi3
    obtain ⟨k, xss, hk, rfl, hbn, hS, ho, hpi, hd, hz⟩ := hrel
    have Hd := Lib.hid hd
    have HS := Lib.hid hS
    have Ho := Lib.hid ho
    have Hbn := Lib.hid hbn
    have Hpi := Lib.hid hpi
    clear hd hS ho hbn hpi
    by_cases hlt : k < m
    · have hki : (k : Int) < (m : Int) := by omega
      obtain ⟨r, hr⟩ := some_of (l := rs) (k := k) (by rw [Hm.out]; exact hlt)
      have hro := resOk_of (Hrs.out r (List.mem_of_getElem? hr))
      obtain ⟨ad, rfl, a0, a1, a2, a3⟩ := (Ha.out.keep (keep_of_below Hd.out)) k _ hr
      have hcf := fun W k p h1 h2 h3 => Hf.out W r k p (List.mem_of_getElem? hr) h1 h2 h3
      have HS1 : Hid (addFold f P (addStep f P xss r) (rs.drop (k + 1)) = R) := Lib.hid (by have := HS.out; rwa [drop_of hr, addFold] at this)
      obtain ⟨rh, ra, rg, rt⟩ := r
      obtain ⟨h, eh⟩ := Int.eq_ofNat_of_zero_le hro.h0
      obtain ⟨a, ea⟩ := Int.eq_ofNat_of_zero_le hro.a0
      simp only at eh ea a0 a1 a2 a3 hcf
      subst eh ea
      have hhn : h < n := by have := hro.hn; simp only at this; omega
      have han : a < n := by have := hro.an; simp only at this; omega
      have hhi : (h : Int) < (n : Int) := by omega
      have hai : (a : Int) < (n : Int) := by omega
      obtain ⟨p, hp⟩ := some_of (l := P) (k := h) (by rw [HPl.out]; exact hhn)
      obtain ⟨q, hq⟩ := some_of (l := P) (k := a) (by rw [HPl.out]; exact han)
      have hp2 := HP180.out p (List.mem_of_getElem? hp)
      have hq2 := HP180.out q (List.mem_of_getElem? hq)
      obtain ⟨u, hu⟩ : ∃ u, f ⟨h, a, rg, rt⟩ (h : Int) q = u := ⟨_, rfl⟩
      obtain ⟨v, hv⟩ : ∃ v, f ⟨h, a, rg, rt⟩ (a : Int) p = v := ⟨_, rfl⟩
      have hcu := fun W => hcf W (h : Int) q (.inl rfl) hq2.1 hq2.2
      have hcv := fun W => hcf W (a : Int) p (.inr rfl) hp2.1 hp2.2
      rw [hu] at hcu
      rw [hv] at hcv
      have HS2 : Hid (addFold f P (put1 (put1 xss h u) a v) (rs.drop (k + 1)) = R) := Lib.hid (by
        have := HS1.out
        simp only [addStep, Int.toNat_natCast] at this
        rw [show P.getD a 0 = q from by rw [List.getD_eq_getElem?_getD, hq]; rfl, show P.getD h 0 = p from by rw [List.getD_eq_getElem?_getD, hp]; rfl, hu, hv] at this
        exact this)
      obtain ⟨xs, hx⟩ := some_of (l := xss) (k := h) (by rw [Hbn.out.len]; exact hhn)
      have hbn1 := Hbn.out.put hhn u
      have hbn2 := hbn1.put han v
      obtain ⟨ys, hy⟩ := some_of (l := put1 xss h u) (k := a) (by rw [hbn1.len]; exact han)
      have hxl := Hbn.out.row xs (List.mem_of_getElem? hx)
      have hyl := hbn1.row ys (List.mem_of_getElem? hy)
      have hbn3 : Lens n (2 * (k + 1)) (put1 (put1 xss h u) a v) := ⟨hbn2.len, fun zs hz => by have := hbn2.row zs hz; omega⟩
      have e1 : put1 xss h u = xss.set h (xs ++ [u]) := by rw [put1, List.getD_eq_getElem?_getD, hx]; rfl
      have e2 : put1 (put1 xss h u) a v = (put1 xss h u).set a (ys ++ [v]) := by rw [put1, List.getD_eq_getElem?_getD, hy]; rfl
      obtain ⟨b0, b1, b2, b3⟩ := box4 wr (.int .i64 (h : Int)) (.int .i64 (a : Int)) (.int .i64 rg) (.int .i64 rt) 47
      have hbr : Below wr.heap.size wr (wr.alloc (.cells #[.int .i64 (h : Int), .int .i64 (a : Int), .int .i64 rg, .int .i64 rt] 47)) := (Below.refl _ _).alloc (Nat.le_refl _) _
      have hszb : (wr.alloc (.cells #[.int .i64 (h : Int), .int .i64 (a : Int), .int .i64 rg, .int .i64 rt] 47)).heap.size = wr.heap.size + 1 := by simp
      clear hcf HS HS1 hbn1 hbn2 hro
      go_wp2
      have hbt0 := heap_alloc_new wr (.cells #[.int .i64 (h : Int), .int .i64 (a : Int), .int .i64 rg, .int .i64 rt] 47)
      obtain ⟨wb, hwb⟩ : ∃ wb, wb = wr.alloc (.cells #[.int .i64 (h : Int), .int .i64 (a : Int), .int .i64 rg, .int .i64 rt] 47) := ⟨_, rfl⟩
      rw [← hwb] at b0 b1 b2 b3 hbr hszb hbt0 ⊢
      obtain ⟨B, hB⟩ : ∃ B, wr.heap.size = B := ⟨_, rfl⟩
      rw [hB] at hbt0
      have Hbt : Hid (wb.heap[B]? = some (.cells #[.int .i64 (h : Int), .int .i64 (a : Int), .int .i64 rg, .int .i64 rt] 47)) := Lib.hid hbt0
      clear hbt0
      simp only [hB] at b0 b1 b2 b3 hbr hszb hz Ho ⊢
      have hob : Own2 3 33 G B wb (some ⟨G, 0, none⟩) n xss := Ho.out.below hbr
      obtain ⟨xa, xc, hh0, hrow, hrowb⟩ := hob.own_of hx
      have hpib := Hpi.out.keep (keep_of_below (by rw [hB]; exact hbr))
      obtain ⟨pd, rfl, hqc⟩ := hpib a q hq
      obtain ⟨pd2, e3, hpc2⟩ := hpib h p hp
      obtain rfl : pd = pd2 := by injection e3
      have hpG : ∀ j, (pd.add j).block < G := fun j => by have := Hpl2.out pd rfl; unfold Addr.add; split <;> exact this
      have hpGa := hpG a
      have hpGh := hpG h
      have hdb := Hd.out.trans (by rw [← hB] at hbr; exact hbr.mono Hd.out.size)
      have hBb : B ≤ wb.heap.size := by omega
      have hBb1 : B < wb.heap.size := by omega
      have hGB : G ≠ B := by omega
      have Hob := Lib.hid hob
      have Hrow := Lib.hid hrow
      have Hpib := Lib.hid hpib
      have Hdb := Lib.hid hdb
      have Hx := Lib.hid hx
      have Hy := Lib.hid hy
      have Hu := Lib.hid hu
      have Hv := Lib.hid hv
      have Hbn3 := Lib.hid hbn3
      have Hcu := Lib.hid hcu
      have Hcv := Lib.hid hcv
      have E1 := Lib.hid e1
      have E2 := Lib.hid e2
      have Hp := Lib.hid hp
      have Hq := Lib.hid hq
      have Hr := Lib.hid hr
      clear hob hrow hpib hdb hx hy hu hv hbn3 hcu hcv e1 e2 hp hq hr
      clear hp2 hq2 hrowb a0 a1 a2 a3 e3 hpG hwb hbr hB Ho Hpi Hd
      refine wp_region_held_drew (S := (fun W' => W'.cell? ⟨B, 0, none⟩ = some (.int .i64 (h : Int)) ∧ W'.cell? ⟨B, 1, none⟩ = some (.int .i64 (a : Int)) ∧ W'.cell? ⟨B, 2, none⟩ = some (.int .i64 rg) ∧ W'.cell? ⟨B, 3, none⟩ = some (.int .i64 rt) ∧ W'.cell? (pd.add a) = some (.int .i64 q) ∧ Fr G B wb W')) (by kernel_rfl) ?_ (fun hHeld => ?_)
      · (first | assumption | exact ⟨b0, b1, b2, b3, hqc, Fr.drew _ _ _⟩ | exact keepF (by assumption) (by assumption) hpGa | exact keepF (by assumption) (Fr.alloc _ _ _ _) hpGa | exact keepF (by assumption) (Fr.setCell _ _ _ hGB) hpGa)
      refine wpAnyH_take (i := 0) (v := ?_) (by simp only [List.getElem?_toArray, List.getElem?_cons_succ, List.getElem?_cons_zero]; rfl) (by kernel_rfl) (by kernel_rfl) (by kernel_rfl) (by intro _ _ _ h; exact h) (Or.inl ⟨by rfl, ?_⟩) (by assumption) ?_
      rotate_left
      · (intro w hSw; (try dsimp only at hSw); go_simp; (try with_reducible rfl))
      (try simp only [Act.put, List.setIfInBounds_toArray, List.set_cons_zero, List.set_cons_succ])
      refine wpAnyH_take (i := 1) (v := ?_) (by simp only [List.getElem?_toArray, List.getElem?_cons_succ, List.getElem?_cons_zero]; rfl) (by kernel_rfl) (by kernel_rfl) (by kernel_rfl) (by intro _ _ _ h; exact h) (Or.inl ⟨by rfl, ?_⟩) (by assumption) ?_
      rotate_left
      · (intro w hSw; (try dsimp only at hSw); go_simp; (try with_reducible rfl))
      (try simp only [Act.put, List.setIfInBounds_toArray, List.set_cons_zero, List.set_cons_succ])
      refine wpAnyH_take (i := 2) (v := ?_) (by simp only [List.getElem?_toArray, List.getElem?_cons_succ, List.getElem?_cons_zero]; rfl) (by kernel_rfl) (by kernel_rfl) (by kernel_rfl) (by intro _ _ _ h; exact h) (Or.inl ⟨by rfl, ?_⟩) (by assumption) ?_
      rotate_left
      · (intro w hSw; (try dsimp only at hSw); go_simp; (try with_reducible rfl))
      (try simp only [Act.put, List.setIfInBounds_toArray, List.set_cons_zero, List.set_cons_succ])
      refine wpAnyH_take (i := 3) (v := ?_) (by simp only [List.getElem?_toArray, List.getElem?_cons_succ, List.getElem?_cons_zero]; rfl) (by kernel_rfl) (by kernel_rfl) (by kernel_rfl) (by intro _ _ _ h; exact h) (Or.inl ⟨by rfl, ?_⟩) (by assumption) ?_
      rotate_left
      · (intro w hSw; (try dsimp only at hSw); go_simp; (try with_reducible rfl))
      (try simp only [Act.put, List.setIfInBounds_toArray, List.set_cons_zero, List.set_cons_succ])
      refine wpAnyH_take (i := 4) (v := ?_) (by simp only [List.getElem?_toArray, List.getElem?_cons_succ, List.getElem?_cons_zero]; rfl) (by kernel_rfl) (by kernel_rfl) (by kernel_rfl) (by intro _ _ _ h; exact h) (Or.inl ⟨by rfl, ?_⟩) (by assumption) ?_
      rotate_left
      · (intro w hSw; (try dsimp only at hSw); go_simp; (try with_reducible rfl))
      (try simp only [Act.put, List.setIfInBounds_toArray, List.set_cons_zero, List.set_cons_succ])
      refine wpAnyH_take (i := 5) (v := ?_) (by simp only [List.getElem?_toArray, List.getElem?_cons_succ, List.getElem?_cons_zero]; rfl) (by kernel_rfl) (by kernel_rfl) (by kernel_rfl) (by intro _ _ _ h; exact h) (Or.inl ⟨by rfl, ?_⟩) (by assumption) ?_
      rotate_left
      · (intro w hSw; (try dsimp only at hSw); go_simp; (try with_reducible rfl))
      (try simp only [Act.put, List.setIfInBounds_toArray, List.set_cons_zero, List.set_cons_succ])
      refine wpAnyH_take (i := 6) (v := ?_) (by simp only [List.getElem?_toArray, List.getElem?_cons_succ, List.getElem?_cons_zero]; rfl) (by kernel_rfl) (by kernel_rfl) (by kernel_rfl) (by intro _ _ _ h; exact h) (Or.inl ⟨by rfl, ?_⟩) (by assumption) ?_
      rotate_left
      · (intro w hSw; (try dsimp only at hSw); go_simp; (try with_reducible rfl))
      (try simp only [Act.put, List.setIfInBounds_toArray, List.set_cons_zero, List.set_cons_succ])
      refine wpAnyH_take (i := 8) (v := ?_) (by simp only [List.getElem?_toArray, List.getElem?_cons_succ, List.getElem?_cons_zero]; rfl) (by kernel_rfl) (by kernel_rfl) (by kernel_rfl) (by intro _ _ _ h; exact h) (Or.inl ⟨by rfl, ?_⟩) (by assumption) ?_
      rotate_left
      · (intro w hSw; (try dsimp only at hSw); go_simp; (try with_reducible rfl))
      (try simp only [Act.put, List.setIfInBounds_toArray, List.set_cons_zero, List.set_cons_succ])
      refine wpAnyH_take (i := 9) (v := ?_) (by simp only [List.getElem?_toArray, List.getElem?_cons_succ, List.getElem?_cons_zero]; rfl) (by kernel_rfl) (by kernel_rfl) (by kernel_rfl) (by intro _ _ _ h; exact h) (Or.inl ⟨by rfl, ?_⟩) (by assumption) ?_
      rotate_left
      · (intro w hSw; (try dsimp only at hSw); go_simp; (try with_reducible rfl))
      (try simp only [Act.put, List.setIfInBounds_toArray, List.set_cons_zero, List.set_cons_succ])
      refine wpAnyH_take (i := 10) (v := ?_) (by simp only [List.getElem?_toArray, List.getElem?_cons_succ, List.getElem?_cons_zero]; rfl) (by kernel_rfl) (by kernel_rfl) (by kernel_rfl) (by intro _ _ _ h; exact h) (Or.inl ⟨by rfl, ?_⟩) (by assumption) ?_
      rotate_left
      · (intro w hSw; (try dsimp only at hSw); go_simp; (try with_reducible rfl))
      (try simp only [Act.put, List.setIfInBounds_toArray, List.set_cons_zero, List.set_cons_succ])
      refine wpAnyH_take (i := 11) (v := ?_) (by simp only [List.getElem?_toArray, List.getElem?_cons_succ, List.getElem?_cons_zero]; rfl) (by kernel_rfl) (by kernel_rfl) (by kernel_rfl) (by intro _ _ _ h; exact h) (Or.inl ⟨by rfl, ?_⟩) (by assumption) ?_
      rotate_left
      · (intro w hSw; (try dsimp only at hSw); go_simp; (try with_reducible rfl))
      (try simp only [Act.put, List.setIfInBounds_toArray, List.set_cons_zero, List.set_cons_succ])
      refine wpAnyH_take (i := 12) (v := ?_) (by simp only [List.getElem?_toArray, List.getElem?_cons_succ, List.getElem?_cons_zero]; rfl) (by kernel_rfl) (by kernel_rfl) (by kernel_rfl) (by intro _ _ _ h; exact h) (Or.inl ⟨by rfl, ?_⟩) (by assumption) ?_
      rotate_left
      · (intro w hSw; (try dsimp only at hSw); go_simp; (try with_reducible rfl))
      (try simp only [Act.put, List.setIfInBounds_toArray, List.set_cons_zero, List.set_cons_succ])
      refine wpAnyH_take (i := 13) (v := ?_) (by simp only [List.getElem?_toArray, List.getElem?_cons_succ, List.getElem?_cons_zero]; rfl) (by kernel_rfl) (by kernel_rfl) (by kernel_rfl) (by intro _ _ _ h; exact h) (Or.inl ⟨by rfl, ?_⟩) (by assumption) ?_
      rotate_left
      · (intro w hSw; (try dsimp only at hSw); go_simp; (try with_reducible rfl))
      (try simp only [Act.put, List.setIfInBounds_toArray, List.set_cons_zero, List.set_cons_succ])
      refine wpAnyH_take (i := 14) (v := ?_) (by simp only [List.getElem?_toArray, List.getElem?_cons_succ, List.getElem?_cons_zero]; rfl) (by kernel_rfl) (by kernel_rfl) (by kernel_rfl) (by intro _ _ _ h; exact h) (Or.inl ⟨by rfl, ?_⟩) (by assumption) ?_
      rotate_left
      · (intro w hSw; (try dsimp only at hSw); go_simp; (try with_reducible rfl))
      (try simp only [Act.put, List.setIfInBounds_toArray, List.set_cons_zero, List.set_cons_succ])
      refine wpAnyH_take (i := 15) (v := ?_) (by simp only [List.getElem?_toArray, List.getElem?_cons_succ, List.getElem?_cons_zero]; rfl) (by kernel_rfl) (by kernel_rfl) (by kernel_rfl) (by intro _ _ _ h; exact h) (Or.inl ⟨by rfl, ?_⟩) (by assumption) ?_
      rotate_left
      · (intro w hSw; (try dsimp only at hSw); go_simp; (try with_reducible rfl))
      (try simp only [Act.put, List.setIfInBounds_toArray, List.set_cons_zero, List.set_cons_succ])
      refine wpAnyH_take (i := 16) (v := ?_) (by simp only [List.getElem?_toArray, List.getElem?_cons_succ, List.getElem?_cons_zero]; rfl) (by kernel_rfl) (by kernel_rfl) (by kernel_rfl) (by intro _ _ _ h; exact h) (Or.inl ⟨by rfl, ?_⟩) (by assumption) ?_
      rotate_left
      · (intro w hSw; (try dsimp only at hSw); go_simp; (try with_reducible rfl))
      (try simp only [Act.put, List.setIfInBounds_toArray, List.set_cons_zero, List.set_cons_succ])
      refine wpAnyH_ready (rs := [7, 17]) (by kernel_rfl) (by simp) ?_
      refine AllReadyH.cons (by simp only [List.getElem?_toArray, List.getElem?_cons_succ, List.getElem?_cons_zero]; rfl) (fun K hK => ?_) ?_
      · go_simp
        refine hK.out _ _ ?_ (fun hHeld => ?_)
        · (first | assumption | exact ⟨b0, b1, b2, b3, hqc, Fr.drew _ _ _⟩ | exact keepF (by assumption) (by assumption) hpGa | exact keepF (by assumption) (Fr.alloc _ _ _ _) hpGa | exact keepF (by assumption) (Fr.setCell _ _ _ hGB) hpGa)
        clear hK K
        (try simp only [Act.put, List.setIfInBounds_toArray, List.set_cons_zero, List.set_cons_succ])
        refine wpAnyH_ready (rs := [17]) (by kernel_rfl) (by simp) ?_
        refine AllReadyH.cons (by simp only [List.getElem?_toArray, List.getElem?_cons_succ, List.getElem?_cons_zero]; rfl) (fun K hK => ?_) ?_
        · (go_simp; (refine (Hcu.out _).mono ?_; rintro e wc ⟨rfl, hbc⟩; have hbw := (below_drew wb).trans hbc; have hhc := keep_of_below hbw _ _ hh0; have hha := (fun (o : Obj) => keep_of_below ((Below.refl wc.heap.size wc).alloc (Nat.le_refl _) o) _ _ hhc); have hoc := Hob.out.below (hbw.mono (by omega)); have hrc := Hrow.out.below (hbw.mono (by omega)); have hzc : B ≤ wc.heap.size := Nat.le_trans (by omega) hbw.size; have honc : Fr G B wb.drew wc := Fr.of_below hbc; have hbt := (hbw.block B (by omega)).trans Hbt.out; have hrn := row_ne (n := xs.length) hrc hbt int_ne_res; have Hoc := Lib.hid hoc; have Hrc := Lib.hid (hrc.wide (Nat.le_refl _) hzc); have Hrn := Lib.hid hrn; clear hoc hrc hbc hrn hbt); go_wp2_with fail)
          refine hK.out _ _ ?_ (fun hHeld => ?_)
          · (first | assumption | exact ⟨b0, b1, b2, b3, hqc, Fr.drew _ _ _⟩ | exact keepF (by assumption) (by assumption) hpGa | exact keepF (by assumption) (Fr.alloc _ _ _ _) hpGa | exact keepF (by assumption) (Fr.setCell _ _ _ hGB) hpGa)
          clear hK K
          (try simp only [Act.put, List.setIfInBounds_toArray, List.set_cons_zero, List.set_cons_succ])
          refine wpAnyH_ready (rs := [18]) (by kernel_rfl) (by simp) ?_
          refine AllReadyH.cons (by simp only [List.getElem?_toArray, List.getElem?_cons_succ, List.getElem?_cons_zero]; rfl) (fun K hK => ?_) ?_
          · go_simp
            refine hK.out _ _ ?_ (fun hHeld => ?_)
            · (first | assumption | exact ⟨b0, b1, b2, b3, hqc, Fr.drew _ _ _⟩ | exact keepF (by assumption) (by assumption) hpGa | exact keepF (by assumption) (Fr.alloc _ _ _ _) hpGa | exact keepF (by assumption) (Fr.setCell _ _ _ hGB) hpGa)
            clear hK K
            (try simp only [Act.put, List.setIfInBounds_toArray, List.set_cons_zero, List.set_cons_succ])
            refine wpAnyH_ready (rs := [19]) (by kernel_rfl) (by simp) ?_
            refine AllReadyH.cons (by simp only [List.getElem?_toArray, List.getElem?_cons_succ, List.getElem?_cons_zero]; rfl) (fun K hK => ?_) ?_
            · (refine step_app1 rfl (.tmp 31) (.tmp 42) 33 rfl 3 (.int .i64 0) 8 Try.underlying33 info_int rfl wc G xa xc (xs.map (.int .i64)) Hrc.out (by omega) (.int .i64 u) rfl (by rw [List.length_map]; omega) (by decide) xs.length (by rw [List.length_map]) rfl rfl ?_; intro g' c' w' ho' hg' hg2 hl'; (have hgr := Own2.grow Hoc.out ints_ne2 hzc Hx.out hhc hg' (by rw [List.map_append]; exact ho') hl'); (have hona : Fr G B _ w' := Fr.of_grown hg2 Hrn.out); have hcy := hgr.1; have hfy := hgr.2.1; (have Hgr := Lib.hid hgr.2.2); (obtain ⟨y8, hcy⟩ := hcy); clear hgr ho' hg' hl')
              refine hK.out _ _ ?_ (fun hHeld => ?_)
              · (first | assumption | exact ⟨b0, b1, b2, b3, hqc, Fr.drew _ _ _⟩ | exact keepF (by assumption) (by assumption) hpGa | exact keepF (by assumption) (Fr.alloc _ _ _ _) hpGa | exact keepF (by assumption) (Fr.setCell _ _ _ hGB) hpGa)
              clear hK K
              (try simp only [Act.put, List.setIfInBounds_toArray, List.set_cons_zero, List.set_cons_succ])
              refine wpAnyH_take (i := 20) (v := ?_) (by simp only [List.getElem?_toArray, List.getElem?_cons_succ, List.getElem?_cons_zero]; rfl) (by kernel_rfl) (by kernel_rfl) (by kernel_rfl) (by intro _ _ _ h; exact h) (Or.inl ⟨by rfl, ?_⟩) (by assumption) ?_
              rotate_left
              · (intro w hSw; (try dsimp only at hSw); go_simp; (try with_reducible rfl))
              (try simp only [Act.put, List.setIfInBounds_toArray, List.set_cons_zero, List.set_cons_succ])
              refine wpAnyH_ready (rs := [21]) (by kernel_rfl) (by simp) ?_
              refine AllReadyH.cons (by simp only [List.getElem?_toArray, List.getElem?_cons_succ, List.getElem?_cons_zero]; rfl) (fun K hK => ?_) ?_
              · go_simp
                refine hK.out _ _ ?_ (fun hHeld => ?_)
                · (first | assumption | exact ⟨b0, b1, b2, b3, hqc, Fr.drew _ _ _⟩ | exact keepF (by assumption) (by assumption) hpGa | exact keepF (by assumption) (Fr.alloc _ _ _ _) hpGa | exact keepF (by assumption) (Fr.setCell _ _ _ hGB) hpGa)
                clear hK K
                (try simp only [Act.put, List.setIfInBounds_toArray, List.set_cons_zero, List.set_cons_succ])
                refine wpAnyH_done (by kernel_rfl) ?_ _
                have hfr : Fr G B wb _ := lastF (by assumption)
                go_wp2
                obtain ⟨W1, hW1⟩ : ∃ W1, W1 = w'.setCell ⟨G, h, none⟩ (.slice (some ⟨g', 0, none⟩) (xs.length + 1) c') := ⟨_, rfl⟩
                have hs1 : w'.heap.size = W1.heap.size := by rw [hW1, setCell_size]
                have hob := Hgr.out
                rw [← E1.out, hs1, ← hW1] at hob
                rw [← hW1] at hfr ⊢
                replace b0 := hfr.cell b0 (.inr rfl)
                replace b1 := hfr.cell b1 (.inr rfl)
                replace b2 := hfr.cell b2 (.inr rfl)
                replace b3 := hfr.cell b3 (.inr rfl)
                replace hpc2 := hfr.cell hpc2 (.inl hpGh)
                replace Hpib := Lib.hid (hfr.ints Hpib.out Hpl2.out)
                replace Hdb := Lib.hid (hfr.below hGw Hdb.out)
                replace Hbt := Lib.hid ((hfr.block B hBb1 (.inr rfl)).trans Hbt.out)
                have hzW := hfr.size
                clear hcy hfy hhc hha hfr Hgr Hoc Hrc Hob Hrow hW1 hzc hbw honc hona Hrn hg2
                obtain ⟨B2, hB2⟩ : ∃ B2, W1.heap.size = B2 := ⟨_, rfl⟩
                rw [hB2] at hob
                obtain ⟨xa, xc, hh1, hrow, _⟩ := hob.own_of Hy.out
                have hBb1 : B < W1.heap.size := by omega
                have Hob := Lib.hid hob
                have Hrow := Lib.hid hrow
                clear hob hrow
                clear hs1
                refine wp_region_held_drew (S := (fun W' => W'.cell? ⟨B, 0, none⟩ = some (.int .i64 (h : Int)) ∧ W'.cell? ⟨B, 1, none⟩ = some (.int .i64 (a : Int)) ∧ W'.cell? ⟨B, 2, none⟩ = some (.int .i64 rg) ∧ W'.cell? ⟨B, 3, none⟩ = some (.int .i64 rt) ∧ W'.cell? (pd.add h) = some (.int .i64 p) ∧ Fr G B W1 W')) (by kernel_rfl) ?_ (fun hHeld => ?_)
                · (first | assumption | exact ⟨b0, b1, b2, b3, hpc2, Fr.drew _ _ _⟩ | exact keepF (by assumption) (by assumption) hpGh | exact keepF (by assumption) (Fr.alloc _ _ _ _) hpGh | exact keepF (by assumption) (Fr.setCell _ _ _ hGB) hpGh)
                refine wpAnyH_take (i := 0) (v := ?_) (by simp only [List.getElem?_toArray, List.getElem?_cons_succ, List.getElem?_cons_zero]; rfl) (by kernel_rfl) (by kernel_rfl) (by kernel_rfl) (by intro _ _ _ h; exact h) (Or.inl ⟨by rfl, ?_⟩) (by assumption) ?_
                rotate_left
                · (intro w hSw; (try dsimp only at hSw); go_simp; (try with_reducible rfl))
                (try simp only [Act.put, List.setIfInBounds_toArray, List.set_cons_zero, List.set_cons_succ])
                refine wpAnyH_take (i := 1) (v := ?_) (by simp only [List.getElem?_toArray, List.getElem?_cons_succ, List.getElem?_cons_zero]; rfl) (by kernel_rfl) (by kernel_rfl) (by kernel_rfl) (by intro _ _ _ h; exact h) (Or.inl ⟨by rfl, ?_⟩) (by assumption) ?_
                rotate_left
                · (intro w hSw; (try dsimp only at hSw); go_simp; (try with_reducible rfl))
                (try simp only [Act.put, List.setIfInBounds_toArray, List.set_cons_zero, List.set_cons_succ])
                refine wpAnyH_take (i := 2) (v := ?_) (by simp only [List.getElem?_toArray, List.getElem?_cons_succ, List.getElem?_cons_zero]; rfl) (by kernel_rfl) (by kernel_rfl) (by kernel_rfl) (by intro _ _ _ h; exact h) (Or.inl ⟨by rfl, ?_⟩) (by assumption) ?_
                rotate_left
                · (intro w hSw; (try dsimp only at hSw); go_simp; (try with_reducible rfl))
                (try simp only [Act.put, List.setIfInBounds_toArray, List.set_cons_zero, List.set_cons_succ])
                refine wpAnyH_take (i := 3) (v := ?_) (by simp only [List.getElem?_toArray, List.getElem?_cons_succ, List.getElem?_cons_zero]; rfl) (by kernel_rfl) (by kernel_rfl) (by kernel_rfl) (by intro _ _ _ h; exact h) (Or.inl ⟨by rfl, ?_⟩) (by assumption) ?_
                rotate_left
                · (intro w hSw; (try dsimp only at hSw); go_simp; (try with_reducible rfl))
                (try simp only [Act.put, List.setIfInBounds_toArray, List.set_cons_zero, List.set_cons_succ])
                refine wpAnyH_take (i := 4) (v := ?_) (by simp only [List.getElem?_toArray, List.getElem?_cons_succ, List.getElem?_cons_zero]; rfl) (by kernel_rfl) (by kernel_rfl) (by kernel_rfl) (by intro _ _ _ h; exact h) (Or.inl ⟨by rfl, ?_⟩) (by assumption) ?_
                rotate_left
                · (intro w hSw; (try dsimp only at hSw); go_simp; (try with_reducible rfl))
                (try simp only [Act.put, List.setIfInBounds_toArray, List.set_cons_zero, List.set_cons_succ])
                refine wpAnyH_take (i := 5) (v := ?_) (by simp only [List.getElem?_toArray, List.getElem?_cons_succ, List.getElem?_cons_zero]; rfl) (by kernel_rfl) (by kernel_rfl) (by kernel_rfl) (by intro _ _ _ h; exact h) (Or.inl ⟨by rfl, ?_⟩) (by assumption) ?_
                rotate_left
                · (intro w hSw; (try dsimp only at hSw); go_simp; (try with_reducible rfl))
                (try simp only [Act.put, List.setIfInBounds_toArray, List.set_cons_zero, List.set_cons_succ])
                refine wpAnyH_take (i := 6) (v := ?_) (by simp only [List.getElem?_toArray, List.getElem?_cons_succ, List.getElem?_cons_zero]; rfl) (by kernel_rfl) (by kernel_rfl) (by kernel_rfl) (by intro _ _ _ h; exact h) (Or.inl ⟨by rfl, ?_⟩) (by assumption) ?_
                rotate_left
                · (intro w hSw; (try dsimp only at hSw); go_simp; (try with_reducible rfl))
                (try simp only [Act.put, List.setIfInBounds_toArray, List.set_cons_zero, List.set_cons_succ])
                refine wpAnyH_take (i := 8) (v := ?_) (by simp only [List.getElem?_toArray, List.getElem?_cons_succ, List.getElem?_cons_zero]; rfl) (by kernel_rfl) (by kernel_rfl) (by kernel_rfl) (by intro _ _ _ h; exact h) (Or.inl ⟨by rfl, ?_⟩) (by assumption) ?_
                rotate_left
                · (intro w hSw; (try dsimp only at hSw); go_simp; (try with_reducible rfl))
                (try simp only [Act.put, List.setIfInBounds_toArray, List.set_cons_zero, List.set_cons_succ])
                refine wpAnyH_take (i := 9) (v := ?_) (by simp only [List.getElem?_toArray, List.getElem?_cons_succ, List.getElem?_cons_zero]; rfl) (by kernel_rfl) (by kernel_rfl) (by kernel_rfl) (by intro _ _ _ h; exact h) (Or.inl ⟨by rfl, ?_⟩) (by assumption) ?_
                rotate_left
                · (intro w hSw; (try dsimp only at hSw); go_simp; (try with_reducible rfl))
                (try simp only [Act.put, List.setIfInBounds_toArray, List.set_cons_zero, List.set_cons_succ])
                refine wpAnyH_take (i := 10) (v := ?_) (by simp only [List.getElem?_toArray, List.getElem?_cons_succ, List.getElem?_cons_zero]; rfl) (by kernel_rfl) (by kernel_rfl) (by kernel_rfl) (by intro _ _ _ h; exact h) (Or.inl ⟨by rfl, ?_⟩) (by assumption) ?_
                rotate_left
                · (intro w hSw; (try dsimp only at hSw); go_simp; (try with_reducible rfl))
                (try simp only [Act.put, List.setIfInBounds_toArray, List.set_cons_zero, List.set_cons_succ])
                refine wpAnyH_take (i := 11) (v := ?_) (by simp only [List.getElem?_toArray, List.getElem?_cons_succ, List.getElem?_cons_zero]; rfl) (by kernel_rfl) (by kernel_rfl) (by kernel_rfl) (by intro _ _ _ h; exact h) (Or.inl ⟨by rfl, ?_⟩) (by assumption) ?_
                rotate_left
                · (intro w hSw; (try dsimp only at hSw); go_simp; (try with_reducible rfl))
                (try simp only [Act.put, List.setIfInBounds_toArray, List.set_cons_zero, List.set_cons_succ])
                refine wpAnyH_take (i := 12) (v := ?_) (by simp only [List.getElem?_toArray, List.getElem?_cons_succ, List.getElem?_cons_zero]; rfl) (by kernel_rfl) (by kernel_rfl) (by kernel_rfl) (by intro _ _ _ h; exact h) (Or.inl ⟨by rfl, ?_⟩) (by assumption) ?_
                rotate_left
                · (intro w hSw; (try dsimp only at hSw); go_simp; (try with_reducible rfl))
                (try simp only [Act.put, List.setIfInBounds_toArray, List.set_cons_zero, List.set_cons_succ])
                refine wpAnyH_take (i := 13) (v := ?_) (by simp only [List.getElem?_toArray, List.getElem?_cons_succ, List.getElem?_cons_zero]; rfl) (by kernel_rfl) (by kernel_rfl) (by kernel_rfl) (by intro _ _ _ h; exact h) (Or.inl ⟨by rfl, ?_⟩) (by assumption) ?_
                rotate_left
                · (intro w hSw; (try dsimp only at hSw); go_simp; (try with_reducible rfl))
                (try simp only [Act.put, List.setIfInBounds_toArray, List.set_cons_zero, List.set_cons_succ])
                refine wpAnyH_take (i := 14) (v := ?_) (by simp only [List.getElem?_toArray, List.getElem?_cons_succ, List.getElem?_cons_zero]; rfl) (by kernel_rfl) (by kernel_rfl) (by kernel_rfl) (by intro _ _ _ h; exact h) (Or.inl ⟨by rfl, ?_⟩) (by assumption) ?_
                rotate_left
                · (intro w hSw; (try dsimp only at hSw); go_simp; (try with_reducible rfl))
                (try simp only [Act.put, List.setIfInBounds_toArray, List.set_cons_zero, List.set_cons_succ])
                refine wpAnyH_take (i := 15) (v := ?_) (by simp only [List.getElem?_toArray, List.getElem?_cons_succ, List.getElem?_cons_zero]; rfl) (by kernel_rfl) (by kernel_rfl) (by kernel_rfl) (by intro _ _ _ h; exact h) (Or.inl ⟨by rfl, ?_⟩) (by assumption) ?_
                rotate_left
                · (intro w hSw; (try dsimp only at hSw); go_simp; (try with_reducible rfl))
                (try simp only [Act.put, List.setIfInBounds_toArray, List.set_cons_zero, List.set_cons_succ])
                refine wpAnyH_take (i := 16) (v := ?_) (by simp only [List.getElem?_toArray, List.getElem?_cons_succ, List.getElem?_cons_zero]; rfl) (by kernel_rfl) (by kernel_rfl) (by kernel_rfl) (by intro _ _ _ h; exact h) (Or.inl ⟨by rfl, ?_⟩) (by assumption) ?_
                rotate_left
                · (intro w hSw; (try dsimp only at hSw); go_simp; (try with_reducible rfl))
                (try simp only [Act.put, List.setIfInBounds_toArray, List.set_cons_zero, List.set_cons_succ])
                refine wpAnyH_ready (rs := [7, 17]) (by kernel_rfl) (by simp) ?_
                refine AllReadyH.cons (by simp only [List.getElem?_toArray, List.getElem?_cons_succ, List.getElem?_cons_zero]; rfl) (fun K hK => ?_) ?_
                · go_simp
                  refine hK.out _ _ ?_ (fun hHeld => ?_)
                  · (first | assumption | exact ⟨b0, b1, b2, b3, hpc2, Fr.drew _ _ _⟩ | exact keepF (by assumption) (by assumption) hpGh | exact keepF (by assumption) (Fr.alloc _ _ _ _) hpGh | exact keepF (by assumption) (Fr.setCell _ _ _ hGB) hpGh)
                  clear hK K
                  (try simp only [Act.put, List.setIfInBounds_toArray, List.set_cons_zero, List.set_cons_succ])
                  refine wpAnyH_ready (rs := [17]) (by kernel_rfl) (by simp) ?_
                  refine AllReadyH.cons (by simp only [List.getElem?_toArray, List.getElem?_cons_succ, List.getElem?_cons_zero]; rfl) (fun K hK => ?_) ?_
                  · (go_simp; (refine (Hcv.out _).mono ?_; rintro e wc ⟨rfl, hbc⟩; have hbw := (below_drew W1).trans hbc; have hhc := keep_of_below hbw _ _ hh1; have hha := (fun (o : Obj) => keep_of_below ((Below.refl wc.heap.size wc).alloc (Nat.le_refl _) o) _ _ hhc); have hoc := Hob.out.below (hbw.mono (by omega)); have hrc := Hrow.out.below (hbw.mono (by omega)); have hzc : B2 ≤ wc.heap.size := Nat.le_trans (by omega) hbw.size; have honc : Fr G B W1.drew wc := Fr.of_below hbc; have hbt := (hbw.block B (by omega)).trans Hbt.out; have hrn := row_ne (n := ys.length) hrc hbt int_ne_res; have Hoc := Lib.hid hoc; have Hrc := Lib.hid (hrc.wide (Nat.le_refl _) hzc); have Hrn := Lib.hid hrn; clear hoc hrc hbc hrn hbt); go_wp2_with fail)
                    refine hK.out _ _ ?_ (fun hHeld => ?_)
                    · (first | assumption | exact ⟨b0, b1, b2, b3, hpc2, Fr.drew _ _ _⟩ | exact keepF (by assumption) (by assumption) hpGh | exact keepF (by assumption) (Fr.alloc _ _ _ _) hpGh | exact keepF (by assumption) (Fr.setCell _ _ _ hGB) hpGh)
                    clear hK K
                    (try simp only [Act.put, List.setIfInBounds_toArray, List.set_cons_zero, List.set_cons_succ])
                    refine wpAnyH_ready (rs := [18]) (by kernel_rfl) (by simp) ?_
                    refine AllReadyH.cons (by simp only [List.getElem?_toArray, List.getElem?_cons_succ, List.getElem?_cons_zero]; rfl) (fun K hK => ?_) ?_
                    · go_simp
                      refine hK.out _ _ ?_ (fun hHeld => ?_)
                      · (first | assumption | exact ⟨b0, b1, b2, b3, hpc2, Fr.drew _ _ _⟩ | exact keepF (by assumption) (by assumption) hpGh | exact keepF (by assumption) (Fr.alloc _ _ _ _) hpGh | exact keepF (by assumption) (Fr.setCell _ _ _ hGB) hpGh)
                      clear hK K
                      (try simp only [Act.put, List.setIfInBounds_toArray, List.set_cons_zero, List.set_cons_succ])
                      refine wpAnyH_ready (rs := [19]) (by kernel_rfl) (by simp) ?_
                      refine AllReadyH.cons (by simp only [List.getElem?_toArray, List.getElem?_cons_succ, List.getElem?_cons_zero]; rfl) (fun K hK => ?_) ?_
                      · (refine step_app1 rfl (.tmp 52) (.tmp 63) 33 rfl 3 (.int .i64 0) 8 Try.underlying33 info_int rfl wc G xa xc (ys.map (.int .i64)) Hrc.out (by omega) (.int .i64 v) rfl (by rw [List.length_map]; omega) (by decide) ys.length (by rw [List.length_map]) rfl rfl ?_; intro g' c' w' ho' hg' hg2 hl'; (have hgr := Own2.grow Hoc.out ints_ne2 hzc Hy.out hhc hg' (by rw [List.map_append]; exact ho') hl'); (have hona : Fr G B _ w' := Fr.of_grown hg2 Hrn.out); have hcy := hgr.1; have hfy := hgr.2.1; (have Hgr := Lib.hid hgr.2.2); (obtain ⟨y8, hcy⟩ := hcy); clear hgr ho' hg' hl')
                        refine hK.out _ _ ?_ (fun hHeld => ?_)
                        · (first | assumption | exact ⟨b0, b1, b2, b3, hpc2, Fr.drew _ _ _⟩ | exact keepF (by assumption) (by assumption) hpGh | exact keepF (by assumption) (Fr.alloc _ _ _ _) hpGh | exact keepF (by assumption) (Fr.setCell _ _ _ hGB) hpGh)
                        clear hK K
                        (try simp only [Act.put, List.setIfInBounds_toArray, List.set_cons_zero, List.set_cons_succ])
                        refine wpAnyH_take (i := 20) (v := ?_) (by simp only [List.getElem?_toArray, List.getElem?_cons_succ, List.getElem?_cons_zero]; rfl) (by kernel_rfl) (by kernel_rfl) (by kernel_rfl) (by intro _ _ _ h; exact h) (Or.inl ⟨by rfl, ?_⟩) (by assumption) ?_
                        rotate_left
                        · (intro w hSw; (try dsimp only at hSw); go_simp; (try with_reducible rfl))
                        (try simp only [Act.put, List.setIfInBounds_toArray, List.set_cons_zero, List.set_cons_succ])
                        refine wpAnyH_ready (rs := [21]) (by kernel_rfl) (by simp) ?_
                        refine AllReadyH.cons (by simp only [List.getElem?_toArray, List.getElem?_cons_succ, List.getElem?_cons_zero]; rfl) (fun K hK => ?_) ?_
                        · go_simp
                          refine hK.out _ _ ?_ (fun hHeld => ?_)
                          · (first | assumption | exact ⟨b0, b1, b2, b3, hpc2, Fr.drew _ _ _⟩ | exact keepF (by assumption) (by assumption) hpGh | exact keepF (by assumption) (Fr.alloc _ _ _ _) hpGh | exact keepF (by assumption) (Fr.setCell _ _ _ hGB) hpGh)
                          clear hK K
                          (try simp only [Act.put, List.setIfInBounds_toArray, List.set_cons_zero, List.set_cons_succ])
                          refine wpAnyH_done (by kernel_rfl) ?_ _
                          have hfr : Fr G B W1 _ := lastF (by assumption)
                          have hob := Hgr.out
                          rw [← E2.out, show w'.heap.size = (w'.setCell ⟨G, a, none⟩ (.slice (some ⟨g', 0, none⟩) (ys.length + 1) c')).heap.size from by rw [setCell_size]] at hob
                          have hpib := hfr.ints Hpib.out Hpl2.out
                          have hdb := hfr.below hGw Hdb.out
                          have hzG : G < (w'.setCell ⟨G, a, none⟩ (.slice (some ⟨g', 0, none⟩) (ys.length + 1) c')).heap.size := Nat.lt_of_lt_of_le (by omega) hfr.size
                          have Hdb := Lib.hid hdb
                          have Hpib := Lib.hid hpib
                          have Hob := Lib.hid hob
                          have HzG := Lib.hid hzG
                          clear hdb hpib hob hzG
                          go_wp2
                          go_roundw
                          case rel => exact ⟨k + 1, _, by omega, by go_num, Hbn3.out, HS2.out, Hob.out, Hpib.out, Hdb.out, HzG.out⟩
                          case measure => simp [intOf]; omega
                        exact AllReadyH.nil
                      exact AllReadyH.nil
                    exact AllReadyH.nil
                  exact AllReadyH.nil
                refine AllReadyH.cons (by simp only [List.getElem?_toArray, List.getElem?_cons_succ, List.getElem?_cons_zero]; rfl) (fun K hK => ?_) ?_
                · (go_simp; (refine (Hcv.out _).mono ?_; rintro e wc ⟨rfl, hbc⟩; have hbw := (below_drew W1).trans hbc; have hhc := keep_of_below hbw _ _ hh1; have hha := (fun (o : Obj) => keep_of_below ((Below.refl wc.heap.size wc).alloc (Nat.le_refl _) o) _ _ hhc); have hoc := Hob.out.below (hbw.mono (by omega)); have hrc := Hrow.out.below (hbw.mono (by omega)); have hzc : B2 ≤ wc.heap.size := Nat.le_trans (by omega) hbw.size; have honc : Fr G B W1.drew wc := Fr.of_below hbc; have hbt := (hbw.block B (by omega)).trans Hbt.out; have hrn := row_ne (n := ys.length) hrc hbt int_ne_res; have Hoc := Lib.hid hoc; have Hrc := Lib.hid (hrc.wide (Nat.le_refl _) hzc); have Hrn := Lib.hid hrn; clear hoc hrc hbc hrn hbt); go_wp2_with fail)
                  refine hK.out _ _ ?_ (fun hHeld => ?_)
                  · (first | assumption | exact ⟨b0, b1, b2, b3, hpc2, Fr.drew _ _ _⟩ | exact keepF (by assumption) (by assumption) hpGh | exact keepF (by assumption) (Fr.alloc _ _ _ _) hpGh | exact keepF (by assumption) (Fr.setCell _ _ _ hGB) hpGh)
                  clear hK K
                  (try simp only [Act.put, List.setIfInBounds_toArray, List.set_cons_zero, List.set_cons_succ])
                  refine wpAnyH_ready (rs := [7, 18]) (by kernel_rfl) (by simp) ?_
                  refine AllReadyH.cons (by simp only [List.getElem?_toArray, List.getElem?_cons_succ, List.getElem?_cons_zero]; rfl) (fun K hK => ?_) ?_
                  · go_simp
                    refine hK.out _ _ ?_ (fun hHeld => ?_)
                    · (first | assumption | exact ⟨b0, b1, b2, b3, hpc2, Fr.drew _ _ _⟩ | exact keepF (by assumption) (by assumption) hpGh | exact keepF (by assumption) (Fr.alloc _ _ _ _) hpGh | exact keepF (by assumption) (Fr.setCell _ _ _ hGB) hpGh)
                    clear hK K
                    (try simp only [Act.put, List.setIfInBounds_toArray, List.set_cons_zero, List.set_cons_succ])
                    refine wpAnyH_ready (rs := [18]) (by kernel_rfl) (by simp) ?_
                    refine AllReadyH.cons (by simp only [List.getElem?_toArray, List.getElem?_cons_succ, List.getElem?_cons_zero]; rfl) (fun K hK => ?_) ?_
                    · go_simp
                      refine hK.out _ _ ?_ (fun hHeld => ?_)
                      · (first | assumption | exact ⟨b0, b1, b2, b3, hpc2, Fr.drew _ _ _⟩ | exact keepF (by assumption) (by assumption) hpGh | exact keepF (by assumption) (Fr.alloc _ _ _ _) hpGh | exact keepF (by assumption) (Fr.setCell _ _ _ hGB) hpGh)
                      clear hK K
                      (try simp only [Act.put, List.setIfInBounds_toArray, List.set_cons_zero, List.set_cons_succ])
                      refine wpAnyH_ready (rs := [19]) (by kernel_rfl) (by simp) ?_
                      refine AllReadyH.cons (by simp only [List.getElem?_toArray, List.getElem?_cons_succ, List.getElem?_cons_zero]; rfl) (fun K hK => ?_) ?_
                      · (refine step_app1 rfl (.tmp 52) (.tmp 63) 33 rfl 3 (.int .i64 0) 8 Try.underlying33 info_int rfl wc G xa xc (ys.map (.int .i64)) Hrc.out (by omega) (.int .i64 v) rfl (by rw [List.length_map]; omega) (by decide) ys.length (by rw [List.length_map]) rfl rfl ?_; intro g' c' w' ho' hg' hg2 hl'; (have hgr := Own2.grow Hoc.out ints_ne2 hzc Hy.out hhc hg' (by rw [List.map_append]; exact ho') hl'); (have hona : Fr G B _ w' := Fr.of_grown hg2 Hrn.out); have hcy := hgr.1; have hfy := hgr.2.1; (have Hgr := Lib.hid hgr.2.2); (obtain ⟨y8, hcy⟩ := hcy); clear hgr ho' hg' hl')
                        refine hK.out _ _ ?_ (fun hHeld => ?_)
                        · (first | assumption | exact ⟨b0, b1, b2, b3, hpc2, Fr.drew _ _ _⟩ | exact keepF (by assumption) (by assumption) hpGh | exact keepF (by assumption) (Fr.alloc _ _ _ _) hpGh | exact keepF (by assumption) (Fr.setCell _ _ _ hGB) hpGh)
                        clear hK K
                        (try simp only [Act.put, List.setIfInBounds_toArray, List.set_cons_zero, List.set_cons_succ])
                        refine wpAnyH_take (i := 20) (v := ?_) (by simp only [List.getElem?_toArray, List.getElem?_cons_succ, List.getElem?_cons_zero]; rfl) (by kernel_rfl) (by kernel_rfl) (by kernel_rfl) (by intro _ _ _ h; exact h) (Or.inl ⟨by rfl, ?_⟩) (by assumption) ?_
                        rotate_left
                        · (intro w hSw; (try dsimp only at hSw); go_simp; (try with_reducible rfl))
                        (try simp only [Act.put, List.setIfInBounds_toArray, List.set_cons_zero, List.set_cons_succ])
                        refine wpAnyH_ready (rs := [21]) (by kernel_rfl) (by simp) ?_
                        refine AllReadyH.cons (by simp only [List.getElem?_toArray, List.getElem?_cons_succ, List.getElem?_cons_zero]; rfl) (fun K hK => ?_) ?_
                        · go_simp
                          refine hK.out _ _ ?_ (fun hHeld => ?_)
                          · (first | assumption | exact ⟨b0, b1, b2, b3, hpc2, Fr.drew _ _ _⟩ | exact keepF (by assumption) (by assumption) hpGh | exact keepF (by assumption) (Fr.alloc _ _ _ _) hpGh | exact keepF (by assumption) (Fr.setCell _ _ _ hGB) hpGh)
                          clear hK K
                          (try simp only [Act.put, List.setIfInBounds_toArray, List.set_cons_zero, List.set_cons_succ])
                          refine wpAnyH_done (by kernel_rfl) ?_ _
                          have hfr : Fr G B W1 _ := lastF (by assumption)
                          have hob := Hgr.out
                          rw [← E2.out, show w'.heap.size = (w'.setCell ⟨G, a, none⟩ (.slice (some ⟨g', 0, none⟩) (ys.length + 1) c')).heap.size from by rw [setCell_size]] at hob
                          have hpib := hfr.ints Hpib.out Hpl2.out
                          have hdb := hfr.below hGw Hdb.out
                          have hzG : G < (w'.setCell ⟨G, a, none⟩ (.slice (some ⟨g', 0, none⟩) (ys.length + 1) c')).heap.size := Nat.lt_of_lt_of_le (by omega) hfr.size
                          have Hdb := Lib.hid hdb
                          have Hpib := Lib.hid hpib
                          have Hob := Lib.hid hob
                          have HzG := Lib.hid hzG
                          clear hdb hpib hob hzG
                          go_wp2
                          go_roundw
                          case rel => exact ⟨k + 1, _, by omega, by go_num, Hbn3.out, HS2.out, Hob.out, Hpib.out, Hdb.out, HzG.out⟩
                          case measure => simp [intOf]; omega
                        exact AllReadyH.nil
                      exact AllReadyH.nil
                    exact AllReadyH.nil
                  refine AllReadyH.cons (by simp only [List.getElem?_toArray, List.getElem?_cons_succ, List.getElem?_cons_zero]; rfl) (fun K hK => ?_) ?_
                  · go_simp
                    refine hK.out _ _ ?_ (fun hHeld => ?_)
                    · (first | assumption | exact ⟨b0, b1, b2, b3, hpc2, Fr.drew _ _ _⟩ | exact keepF (by assumption) (by assumption) hpGh | exact keepF (by assumption) (Fr.alloc _ _ _ _) hpGh | exact keepF (by assumption) (Fr.setCell _ _ _ hGB) hpGh)
                    clear hK K
                    (try simp only [Act.put, List.setIfInBounds_toArray, List.set_cons_zero, List.set_cons_succ])
                    refine wpAnyH_ready (rs := [7]) (by kernel_rfl) (by simp) ?_
                    refine AllReadyH.cons (by simp only [List.getElem?_toArray, List.getElem?_cons_succ, List.getElem?_cons_zero]; rfl) (fun K hK => ?_) ?_
                    · go_simp
                      refine hK.out _ _ ?_ (fun hHeld => ?_)
                      · (first | assumption | exact ⟨b0, b1, b2, b3, hpc2, Fr.drew _ _ _⟩ | exact keepF (by assumption) (by assumption) hpGh | exact keepF (by assumption) (Fr.alloc _ _ _ _) hpGh | exact keepF (by assumption) (Fr.setCell _ _ _ hGB) hpGh)
                      clear hK K
                      (try simp only [Act.put, List.setIfInBounds_toArray, List.set_cons_zero, List.set_cons_succ])
                      refine wpAnyH_ready (rs := [19]) (by kernel_rfl) (by simp) ?_
                      refine AllReadyH.cons (by simp only [List.getElem?_toArray, List.getElem?_cons_succ, List.getElem?_cons_zero]; rfl) (fun K hK => ?_) ?_
                      · (refine step_app1 rfl (.tmp 52) (.tmp 63) 33 rfl 3 (.int .i64 0) 8 Try.underlying33 info_int rfl wc G xa xc (ys.map (.int .i64)) Hrc.out (by omega) (.int .i64 v) rfl (by rw [List.length_map]; omega) (by decide) ys.length (by rw [List.length_map]) rfl rfl ?_; intro g' c' w' ho' hg' hg2 hl'; (have hgr := Own2.grow Hoc.out ints_ne2 hzc Hy.out hhc hg' (by rw [List.map_append]; exact ho') hl'); (have hona : Fr G B _ w' := Fr.of_grown hg2 Hrn.out); have hcy := hgr.1; have hfy := hgr.2.1; (have Hgr := Lib.hid hgr.2.2); (obtain ⟨y8, hcy⟩ := hcy); clear hgr ho' hg' hl')
                        refine hK.out _ _ ?_ (fun hHeld => ?_)
                        · (first | assumption | exact ⟨b0, b1, b2, b3, hpc2, Fr.drew _ _ _⟩ | exact keepF (by assumption) (by assumption) hpGh | exact keepF (by assumption) (Fr.alloc _ _ _ _) hpGh | exact keepF (by assumption) (Fr.setCell _ _ _ hGB) hpGh)
                        clear hK K
                        (try simp only [Act.put, List.setIfInBounds_toArray, List.set_cons_zero, List.set_cons_succ])
                        refine wpAnyH_take (i := 20) (v := ?_) (by simp only [List.getElem?_toArray, List.getElem?_cons_succ, List.getElem?_cons_zero]; rfl) (by kernel_rfl) (by kernel_rfl) (by kernel_rfl) (by intro _ _ _ h; exact h) (Or.inl ⟨by rfl, ?_⟩) (by assumption) ?_
                        rotate_left
                        · (intro w hSw; (try dsimp only at hSw); go_simp; (try with_reducible rfl))
                        (try simp only [Act.put, List.setIfInBounds_toArray, List.set_cons_zero, List.set_cons_succ])
                        refine wpAnyH_ready (rs := [21]) (by kernel_rfl) (by simp) ?_
                        refine AllReadyH.cons (by simp only [List.getElem?_toArray, List.getElem?_cons_succ, List.getElem?_cons_zero]; rfl) (fun K hK => ?_) ?_
                        · go_simp
                          refine hK.out _ _ ?_ (fun hHeld => ?_)
                          · (first | assumption | exact ⟨b0, b1, b2, b3, hpc2, Fr.drew _ _ _⟩ | exact keepF (by assumption) (by assumption) hpGh | exact keepF (by assumption) (Fr.alloc _ _ _ _) hpGh | exact keepF (by assumption) (Fr.setCell _ _ _ hGB) hpGh)
                          clear hK K
                          (try simp only [Act.put, List.setIfInBounds_toArray, List.set_cons_zero, List.set_cons_succ])
                          refine wpAnyH_done (by kernel_rfl) ?_ _
                          have hfr : Fr G B W1 _ := lastF (by assumption)
                          have hob := Hgr.out
                          rw [← E2.out, show w'.heap.size = (w'.setCell ⟨G, a, none⟩ (.slice (some ⟨g', 0, none⟩) (ys.length + 1) c')).heap.size from by rw [setCell_size]] at hob
                          have hpib := hfr.ints Hpib.out Hpl2.out
                          have hdb := hfr.below hGw Hdb.out
                          have hzG : G < (w'.setCell ⟨G, a, none⟩ (.slice (some ⟨g', 0, none⟩) (ys.length + 1) c')).heap.size := Nat.lt_of_lt_of_le (by omega) hfr.size
                          have Hdb := Lib.hid hdb
                          have Hpib := Lib.hid hpib
                          have Hob := Lib.hid hob
                          have HzG := Lib.hid hzG
                          clear hdb hpib hob hzG
                          go_wp2
                          go_roundw
                          case rel => exact ⟨k + 1, _, by omega, by go_num, Hbn3.out, HS2.out, Hob.out, Hpib.out, Hdb.out, HzG.out⟩
                          case measure => simp [intOf]; omega
                        exact AllReadyH.nil
                      exact AllReadyH.nil
                    exact AllReadyH.nil
                  exact AllReadyH.nil
                exact AllReadyH.nil
              exact AllReadyH.nil
            exact AllReadyH.nil
          exact AllReadyH.nil
        exact AllReadyH.nil
      refine AllReadyH.cons (by simp only [List.getElem?_toArray, List.getElem?_cons_succ, List.getElem?_cons_zero]; rfl) (fun K hK => ?_) ?_
      · (go_simp; (refine (Hcu.out _).mono ?_; rintro e wc ⟨rfl, hbc⟩; have hbw := (below_drew wb).trans hbc; have hhc := keep_of_below hbw _ _ hh0; have hha := (fun (o : Obj) => keep_of_below ((Below.refl wc.heap.size wc).alloc (Nat.le_refl _) o) _ _ hhc); have hoc := Hob.out.below (hbw.mono (by omega)); have hrc := Hrow.out.below (hbw.mono (by omega)); have hzc : B ≤ wc.heap.size := Nat.le_trans (by omega) hbw.size; have honc : Fr G B wb.drew wc := Fr.of_below hbc; have hbt := (hbw.block B (by omega)).trans Hbt.out; have hrn := row_ne (n := xs.length) hrc hbt int_ne_res; have Hoc := Lib.hid hoc; have Hrc := Lib.hid (hrc.wide (Nat.le_refl _) hzc); have Hrn := Lib.hid hrn; clear hoc hrc hbc hrn hbt); go_wp2_with fail)
        refine hK.out _ _ ?_ (fun hHeld => ?_)
        · (first | assumption | exact ⟨b0, b1, b2, b3, hqc, Fr.drew _ _ _⟩ | exact keepF (by assumption) (by assumption) hpGa | exact keepF (by assumption) (Fr.alloc _ _ _ _) hpGa | exact keepF (by assumption) (Fr.setCell _ _ _ hGB) hpGa)
        clear hK K
        (try simp only [Act.put, List.setIfInBounds_toArray, List.set_cons_zero, List.set_cons_succ])
        refine wpAnyH_ready (rs := [7, 18]) (by kernel_rfl) (by simp) ?_
        refine AllReadyH.cons (by simp only [List.getElem?_toArray, List.getElem?_cons_succ, List.getElem?_cons_zero]; rfl) (fun K hK => ?_) ?_
        · go_simp
          refine hK.out _ _ ?_ (fun hHeld => ?_)
          · (first | assumption | exact ⟨b0, b1, b2, b3, hqc, Fr.drew _ _ _⟩ | exact keepF (by assumption) (by assumption) hpGa | exact keepF (by assumption) (Fr.alloc _ _ _ _) hpGa | exact keepF (by assumption) (Fr.setCell _ _ _ hGB) hpGa)
          clear hK K
          (try simp only [Act.put, List.setIfInBounds_toArray, List.set_cons_zero, List.set_cons_succ])
          refine wpAnyH_ready (rs := [18]) (by kernel_rfl) (by simp) ?_
          refine AllReadyH.cons (by simp only [List.getElem?_toArray, List.getElem?_cons_succ, List.getElem?_cons_zero]; rfl) (fun K hK => ?_) ?_
          · go_simp
            refine hK.out _ _ ?_ (fun hHeld => ?_)
            · (first | assumption | exact ⟨b0, b1, b2, b3, hqc, Fr.drew _ _ _⟩ | exact keepF (by assumption) (by assumption) hpGa | exact keepF (by assumption) (Fr.alloc _ _ _ _) hpGa | exact keepF (by assumption) (Fr.setCell _ _ _ hGB) hpGa)
            clear hK K
            (try simp only [Act.put, List.setIfInBounds_toArray, List.set_cons_zero, List.set_cons_succ])
            refine wpAnyH_ready (rs := [19]) (by kernel_rfl) (by simp) ?_
            refine AllReadyH.cons (by simp only [List.getElem?_toArray, List.getElem?_cons_succ, List.getElem?_cons_zero]; rfl) (fun K hK => ?_) ?_
            · (refine step_app1 rfl (.tmp 31) (.tmp 42) 33 rfl 3 (.int .i64 0) 8 Try.underlying33 info_int rfl wc G xa xc (xs.map (.int .i64)) Hrc.out (by omega) (.int .i64 u) rfl (by rw [List.length_map]; omega) (by decide) xs.length (by rw [List.length_map]) rfl rfl ?_; intro g' c' w' ho' hg' hg2 hl'; (have hgr := Own2.grow Hoc.out ints_ne2 hzc Hx.out hhc hg' (by rw [List.map_append]; exact ho') hl'); (have hona : Fr G B _ w' := Fr.of_grown hg2 Hrn.out); have hcy := hgr.1; have hfy := hgr.2.1; (have Hgr := Lib.hid hgr.2.2); (obtain ⟨y8, hcy⟩ := hcy); clear hgr ho' hg' hl')
              refine hK.out _ _ ?_ (fun hHeld => ?_)
              · (first | assumption | exact ⟨b0, b1, b2, b3, hqc, Fr.drew _ _ _⟩ | exact keepF (by assumption) (by assumption) hpGa | exact keepF (by assumption) (Fr.alloc _ _ _ _) hpGa | exact keepF (by assumption) (Fr.setCell _ _ _ hGB) hpGa)
              clear hK K
              (try simp only [Act.put, List.setIfInBounds_toArray, List.set_cons_zero, List.set_cons_succ])
              refine wpAnyH_take (i := 20) (v := ?_) (by simp only [List.getElem?_toArray, List.getElem?_cons_succ, List.getElem?_cons_zero]; rfl) (by kernel_rfl) (by kernel_rfl) (by kernel_rfl) (by intro _ _ _ h; exact h) (Or.inl ⟨by rfl, ?_⟩) (by assumption) ?_
              rotate_left
              · (intro w hSw; (try dsimp only at hSw); go_simp; (try with_reducible rfl))
              (try simp only [Act.put, List.setIfInBounds_toArray, List.set_cons_zero, List.set_cons_succ])
              refine wpAnyH_ready (rs := [21]) (by kernel_rfl) (by simp) ?_
              refine AllReadyH.cons (by simp only [List.getElem?_toArray, List.getElem?_cons_succ, List.getElem?_cons_zero]; rfl) (fun K hK => ?_) ?_
              · go_simp
                refine hK.out _ _ ?_ (fun hHeld => ?_)
                · (first | assumption | exact ⟨b0, b1, b2, b3, hqc, Fr.drew _ _ _⟩ | exact keepF (by assumption) (by assumption) hpGa | exact keepF (by assumption) (Fr.alloc _ _ _ _) hpGa | exact keepF (by assumption) (Fr.setCell _ _ _ hGB) hpGa)
                clear hK K
                (try simp only [Act.put, List.setIfInBounds_toArray, List.set_cons_zero, List.set_cons_succ])
                refine wpAnyH_done (by kernel_rfl) ?_ _
                have hfr : Fr G B wb _ := lastF (by assumption)
                go_wp2
                obtain ⟨W1, hW1⟩ : ∃ W1, W1 = w'.setCell ⟨G, h, none⟩ (.slice (some ⟨g', 0, none⟩) (xs.length + 1) c') := ⟨_, rfl⟩
                have hs1 : w'.heap.size = W1.heap.size := by rw [hW1, setCell_size]
                have hob := Hgr.out
                rw [← E1.out, hs1, ← hW1] at hob
                rw [← hW1] at hfr ⊢
                replace b0 := hfr.cell b0 (.inr rfl)
                replace b1 := hfr.cell b1 (.inr rfl)
                replace b2 := hfr.cell b2 (.inr rfl)
                replace b3 := hfr.cell b3 (.inr rfl)
                replace hpc2 := hfr.cell hpc2 (.inl hpGh)
                replace Hpib := Lib.hid (hfr.ints Hpib.out Hpl2.out)
                replace Hdb := Lib.hid (hfr.below hGw Hdb.out)
                replace Hbt := Lib.hid ((hfr.block B hBb1 (.inr rfl)).trans Hbt.out)
                have hzW := hfr.size
                clear hcy hfy hhc hha hfr Hgr Hoc Hrc Hob Hrow hW1 hzc hbw honc hona Hrn hg2
                obtain ⟨B2, hB2⟩ : ∃ B2, W1.heap.size = B2 := ⟨_, rfl⟩
                rw [hB2] at hob
                obtain ⟨xa, xc, hh1, hrow, _⟩ := hob.own_of Hy.out
                have hBb1 : B < W1.heap.size := by omega
                have Hob := Lib.hid hob
                have Hrow := Lib.hid hrow
                clear hob hrow
                clear hs1
                refine wp_region_held_drew (S := (fun W' => W'.cell? ⟨B, 0, none⟩ = some (.int .i64 (h : Int)) ∧ W'.cell? ⟨B, 1, none⟩ = some (.int .i64 (a : Int)) ∧ W'.cell? ⟨B, 2, none⟩ = some (.int .i64 rg) ∧ W'.cell? ⟨B, 3, none⟩ = some (.int .i64 rt) ∧ W'.cell? (pd.add h) = some (.int .i64 p) ∧ Fr G B W1 W')) (by kernel_rfl) ?_ (fun hHeld => ?_)
                · (first | assumption | exact ⟨b0, b1, b2, b3, hpc2, Fr.drew _ _ _⟩ | exact keepF (by assumption) (by assumption) hpGh | exact keepF (by assumption) (Fr.alloc _ _ _ _) hpGh | exact keepF (by assumption) (Fr.setCell _ _ _ hGB) hpGh)
                refine wpAnyH_take (i := 0) (v := ?_) (by simp only [List.getElem?_toArray, List.getElem?_cons_succ, List.getElem?_cons_zero]; rfl) (by kernel_rfl) (by kernel_rfl) (by kernel_rfl) (by intro _ _ _ h; exact h) (Or.inl ⟨by rfl, ?_⟩) (by assumption) ?_
                rotate_left
                · (intro w hSw; (try dsimp only at hSw); go_simp; (try with_reducible rfl))
                (try simp only [Act.put, List.setIfInBounds_toArray, List.set_cons_zero, List.set_cons_succ])
                refine wpAnyH_take (i := 1) (v := ?_) (by simp only [List.getElem?_toArray, List.getElem?_cons_succ, List.getElem?_cons_zero]; rfl) (by kernel_rfl) (by kernel_rfl) (by kernel_rfl) (by intro _ _ _ h; exact h) (Or.inl ⟨by rfl, ?_⟩) (by assumption) ?_
                rotate_left
                · (intro w hSw; (try dsimp only at hSw); go_simp; (try with_reducible rfl))
                (try simp only [Act.put, List.setIfInBounds_toArray, List.set_cons_zero, List.set_cons_succ])
                refine wpAnyH_take (i := 2) (v := ?_) (by simp only [List.getElem?_toArray, List.getElem?_cons_succ, List.getElem?_cons_zero]; rfl) (by kernel_rfl) (by kernel_rfl) (by kernel_rfl) (by intro _ _ _ h; exact h) (Or.inl ⟨by rfl, ?_⟩) (by assumption) ?_
                rotate_left
                · (intro w hSw; (try dsimp only at hSw); go_simp; (try with_reducible rfl))
                (try simp only [Act.put, List.setIfInBounds_toArray, List.set_cons_zero, List.set_cons_succ])
                refine wpAnyH_take (i := 3) (v := ?_) (by simp only [List.getElem?_toArray, List.getElem?_cons_succ, List.getElem?_cons_zero]; rfl) (by kernel_rfl) (by kernel_rfl) (by kernel_rfl) (by intro _ _ _ h; exact h) (Or.inl ⟨by rfl, ?_⟩) (by assumption) ?_
                rotate_left
                · (intro w hSw; (try dsimp only at hSw); go_simp; (try with_reducible rfl))
                (try simp only [Act.put, List.setIfInBounds_toArray, List.set_cons_zero, List.set_cons_succ])
                refine wpAnyH_take (i := 4) (v := ?_) (by simp only [List.getElem?_toArray, List.getElem?_cons_succ, List.getElem?_cons_zero]; rfl) (by kernel_rfl) (by kernel_rfl) (by kernel_rfl) (by intro _ _ _ h; exact h) (Or.inl ⟨by rfl, ?_⟩) (by assumption) ?_
                rotate_left
                · (intro w hSw; (try dsimp only at hSw); go_simp; (try with_reducible rfl))
                (try simp only [Act.put, List.setIfInBounds_toArray, List.set_cons_zero, List.set_cons_succ])
                refine wpAnyH_take (i := 5) (v := ?_) (by simp only [List.getElem?_toArray, List.getElem?_cons_succ, List.getElem?_cons_zero]; rfl) (by kernel_rfl) (by kernel_rfl) (by kernel_rfl) (by intro _ _ _ h; exact h) (Or.inl ⟨by rfl, ?_⟩) (by assumption) ?_
                rotate_left
                · (intro w hSw; (try dsimp only at hSw); go_simp; (try with_reducible rfl))
                (try simp only [Act.put, List.setIfInBounds_toArray, List.set_cons_zero, List.set_cons_succ])
                refine wpAnyH_take (i := 6) (v := ?_) (by simp only [List.getElem?_toArray, List.getElem?_cons_succ, List.getElem?_cons_zero]; rfl) (by kernel_rfl) (by kernel_rfl) (by kernel_rfl) (by intro _ _ _ h; exact h) (Or.inl ⟨by rfl, ?_⟩) (by assumption) ?_
                rotate_left
                · (intro w hSw; (try dsimp only at hSw); go_simp; (try with_reducible rfl))
                (try simp only [Act.put, List.setIfInBounds_toArray, List.set_cons_zero, List.set_cons_succ])
                refine wpAnyH_take (i := 8) (v := ?_) (by simp only [List.getElem?_toArray, List.getElem?_cons_succ, List.getElem?_cons_zero]; rfl) (by kernel_rfl) (by kernel_rfl) (by kernel_rfl) (by intro _ _ _ h; exact h) (Or.inl ⟨by rfl, ?_⟩) (by assumption) ?_
                rotate_left
                · (intro w hSw; (try dsimp only at hSw); go_simp; (try with_reducible rfl))
                (try simp only [Act.put, List.setIfInBounds_toArray, List.set_cons_zero, List.set_cons_succ])
                refine wpAnyH_take (i := 9) (v := ?_) (by simp only [List.getElem?_toArray, List.getElem?_cons_succ, List.getElem?_cons_zero]; rfl) (by kernel_rfl) (by kernel_rfl) (by kernel_rfl) (by intro _ _ _ h; exact h) (Or.inl ⟨by rfl, ?_⟩) (by assumption) ?_
                rotate_left
                · (intro w hSw; (try dsimp only at hSw); go_simp; (try with_reducible rfl))
                (try simp only [Act.put, List.setIfInBounds_toArray, List.set_cons_zero, List.set_cons_succ])
                refine wpAnyH_take (i := 10) (v := ?_) (by simp only [List.getElem?_toArray, List.getElem?_cons_succ, List.getElem?_cons_zero]; rfl) (by kernel_rfl) (by kernel_rfl) (by kernel_rfl) (by intro _ _ _ h; exact h) (Or.inl ⟨by rfl, ?_⟩) (by assumption) ?_
                rotate_left
                · (intro w hSw; (try dsimp only at hSw); go_simp; (try with_reducible rfl))
                (try simp only [Act.put, List.setIfInBounds_toArray, List.set_cons_zero, List.set_cons_succ])
                refine wpAnyH_take (i := 11) (v := ?_) (by simp only [List.getElem?_toArray, List.getElem?_cons_succ, List.getElem?_cons_zero]; rfl) (by kernel_rfl) (by kernel_rfl) (by kernel_rfl) (by intro _ _ _ h; exact h) (Or.inl ⟨by rfl, ?_⟩) (by assumption) ?_
                rotate_left
                · (intro w hSw; (try dsimp only at hSw); go_simp; (try with_reducible rfl))
                (try simp only [Act.put, List.setIfInBounds_toArray, List.set_cons_zero, List.set_cons_succ])
                refine wpAnyH_take (i := 12) (v := ?_) (by simp only [List.getElem?_toArray, List.getElem?_cons_succ, List.getElem?_cons_zero]; rfl) (by kernel_rfl) (by kernel_rfl) (by kernel_rfl) (by intro _ _ _ h; exact h) (Or.inl ⟨by rfl, ?_⟩) (by assumption) ?_
                rotate_left
                · (intro w hSw; (try dsimp only at hSw); go_simp; (try with_reducible rfl))
                (try simp only [Act.put, List.setIfInBounds_toArray, List.set_cons_zero, List.set_cons_succ])
                refine wpAnyH_take (i := 13) (v := ?_) (by simp only [List.getElem?_toArray, List.getElem?_cons_succ, List.getElem?_cons_zero]; rfl) (by kernel_rfl) (by kernel_rfl) (by kernel_rfl) (by intro _ _ _ h; exact h) (Or.inl ⟨by rfl, ?_⟩) (by assumption) ?_
                rotate_left
                · (intro w hSw; (try dsimp only at hSw); go_simp; (try with_reducible rfl))
                (try simp only [Act.put, List.setIfInBounds_toArray, List.set_cons_zero, List.set_cons_succ])
                refine wpAnyH_take (i := 14) (v := ?_) (by simp only [List.getElem?_toArray, List.getElem?_cons_succ, List.getElem?_cons_zero]; rfl) (by kernel_rfl) (by kernel_rfl) (by kernel_rfl) (by intro _ _ _ h; exact h) (Or.inl ⟨by rfl, ?_⟩) (by assumption) ?_
                rotate_left
                · (intro w hSw; (try dsimp only at hSw); go_simp; (try with_reducible rfl))
                (try simp only [Act.put, List.setIfInBounds_toArray, List.set_cons_zero, List.set_cons_succ])
                refine wpAnyH_take (i := 15) (v := ?_) (by simp only [List.getElem?_toArray, List.getElem?_cons_succ, List.getElem?_cons_zero]; rfl) (by kernel_rfl) (by kernel_rfl) (by kernel_rfl) (by intro _ _ _ h; exact h) (Or.inl ⟨by rfl, ?_⟩) (by assumption) ?_
                rotate_left
                · (intro w hSw; (try dsimp only at hSw); go_simp; (try with_reducible rfl))
                (try simp only [Act.put, List.setIfInBounds_toArray, List.set_cons_zero, List.set_cons_succ])
                refine wpAnyH_take (i := 16) (v := ?_) (by simp only [List.getElem?_toArray, List.getElem?_cons_succ, List.getElem?_cons_zero]; rfl) (by kernel_rfl) (by kernel_rfl) (by kernel_rfl) (by intro _ _ _ h; exact h) (Or.inl ⟨by rfl, ?_⟩) (by assumption) ?_
                rotate_left
                · (intro w hSw; (try dsimp only at hSw); go_simp; (try with_reducible rfl))
                (try simp only [Act.put, List.setIfInBounds_toArray, List.set_cons_zero, List.set_cons_succ])
                refine wpAnyH_ready (rs := [7, 17]) (by kernel_rfl) (by simp) ?_
                refine AllReadyH.cons (by simp only [List.getElem?_toArray, List.getElem?_cons_succ, List.getElem?_cons_zero]; rfl) (fun K hK => ?_) ?_
                · go_simp
                  refine hK.out _ _ ?_ (fun hHeld => ?_)
                  · (first | assumption | exact ⟨b0, b1, b2, b3, hpc2, Fr.drew _ _ _⟩ | exact keepF (by assumption) (by assumption) hpGh | exact keepF (by assumption) (Fr.alloc _ _ _ _) hpGh | exact keepF (by assumption) (Fr.setCell _ _ _ hGB) hpGh)
                  clear hK K
                  (try simp only [Act.put, List.setIfInBounds_toArray, List.set_cons_zero, List.set_cons_succ])
                  refine wpAnyH_ready (rs := [17]) (by kernel_rfl) (by simp) ?_
                  refine AllReadyH.cons (by simp only [List.getElem?_toArray, List.getElem?_cons_succ, List.getElem?_cons_zero]; rfl) (fun K hK => ?_) ?_
                  · (go_simp; (refine (Hcv.out _).mono ?_; rintro e wc ⟨rfl, hbc⟩; have hbw := (below_drew W1).trans hbc; have hhc := keep_of_below hbw _ _ hh1; have hha := (fun (o : Obj) => keep_of_below ((Below.refl wc.heap.size wc).alloc (Nat.le_refl _) o) _ _ hhc); have hoc := Hob.out.below (hbw.mono (by omega)); have hrc := Hrow.out.below (hbw.mono (by omega)); have hzc : B2 ≤ wc.heap.size := Nat.le_trans (by omega) hbw.size; have honc : Fr G B W1.drew wc := Fr.of_below hbc; have hbt := (hbw.block B (by omega)).trans Hbt.out; have hrn := row_ne (n := ys.length) hrc hbt int_ne_res; have Hoc := Lib.hid hoc; have Hrc := Lib.hid (hrc.wide (Nat.le_refl _) hzc); have Hrn := Lib.hid hrn; clear hoc hrc hbc hrn hbt); go_wp2_with fail)
                    refine hK.out _ _ ?_ (fun hHeld => ?_)
                    · (first | assumption | exact ⟨b0, b1, b2, b3, hpc2, Fr.drew _ _ _⟩ | exact keepF (by assumption) (by assumption) hpGh | exact keepF (by assumption) (Fr.alloc _ _ _ _) hpGh | exact keepF (by assumption) (Fr.setCell _ _ _ hGB) hpGh)
                    clear hK K
                    (try simp only [Act.put, List.setIfInBounds_toArray, List.set_cons_zero, List.set_cons_succ])
                    refine wpAnyH_ready (rs := [18]) (by kernel_rfl) (by simp) ?_
                    refine AllReadyH.cons (by simp only [List.getElem?_toArray, List.getElem?_cons_succ, List.getElem?_cons_zero]; rfl) (fun K hK => ?_) ?_
                    · go_simp
                      refine hK.out _ _ ?_ (fun hHeld => ?_)
                      · (first | assumption | exact ⟨b0, b1, b2, b3, hpc2, Fr.drew _ _ _⟩ | exact keepF (by assumption) (by assumption) hpGh | exact keepF (by assumption) (Fr.alloc _ _ _ _) hpGh | exact keepF (by assumption) (Fr.setCell _ _ _ hGB) hpGh)
                      clear hK K
                      (try simp only [Act.put, List.setIfInBounds_toArray, List.set_cons_zero, List.set_cons_succ])
                      refine wpAnyH_ready (rs := [19]) (by kernel_rfl) (by simp) ?_
                      refine AllReadyH.cons (by simp only [List.getElem?_toArray, List.getElem?_cons_succ, List.getElem?_cons_zero]; rfl) (fun K hK => ?_) ?_
                      · (refine step_app1 rfl (.tmp 52) (.tmp 63) 33 rfl 3 (.int .i64 0) 8 Try.underlying33 info_int rfl wc G xa xc (ys.map (.int .i64)) Hrc.out (by omega) (.int .i64 v) rfl (by rw [List.length_map]; omega) (by decide) ys.length (by rw [List.length_map]) rfl rfl ?_; intro g' c' w' ho' hg' hg2 hl'; (have hgr := Own2.grow Hoc.out ints_ne2 hzc Hy.out hhc hg' (by rw [List.map_append]; exact ho') hl'); (have hona : Fr G B _ w' := Fr.of_grown hg2 Hrn.out); have hcy := hgr.1; have hfy := hgr.2.1; (have Hgr := Lib.hid hgr.2.2); (obtain ⟨y8, hcy⟩ := hcy); clear hgr ho' hg' hl')
                        refine hK.out _ _ ?_ (fun hHeld => ?_)
                        · (first | assumption | exact ⟨b0, b1, b2, b3, hpc2, Fr.drew _ _ _⟩ | exact keepF (by assumption) (by assumption) hpGh | exact keepF (by assumption) (Fr.alloc _ _ _ _) hpGh | exact keepF (by assumption) (Fr.setCell _ _ _ hGB) hpGh)
                        clear hK K
                        (try simp only [Act.put, List.setIfInBounds_toArray, List.set_cons_zero, List.set_cons_succ])
                        refine wpAnyH_take (i := 20) (v := ?_) (by simp only [List.getElem?_toArray, List.getElem?_cons_succ, List.getElem?_cons_zero]; rfl) (by kernel_rfl) (by kernel_rfl) (by kernel_rfl) (by intro _ _ _ h; exact h) (Or.inl ⟨by rfl, ?_⟩) (by assumption) ?_
                        rotate_left
                        · (intro w hSw; (try dsimp only at hSw); go_simp; (try with_reducible rfl))
                        (try simp only [Act.put, List.setIfInBounds_toArray, List.set_cons_zero, List.set_cons_succ])
                        refine wpAnyH_ready (rs := [21]) (by kernel_rfl) (by simp) ?_
                        refine AllReadyH.cons (by simp only [List.getElem?_toArray, List.getElem?_cons_succ, List.getElem?_cons_zero]; rfl) (fun K hK => ?_) ?_
                        · go_simp
                          refine hK.out _ _ ?_ (fun hHeld => ?_)
                          · (first | assumption | exact ⟨b0, b1, b2, b3, hpc2, Fr.drew _ _ _⟩ | exact keepF (by assumption) (by assumption) hpGh | exact keepF (by assumption) (Fr.alloc _ _ _ _) hpGh | exact keepF (by assumption) (Fr.setCell _ _ _ hGB) hpGh)
                          clear hK K
                          (try simp only [Act.put, List.setIfInBounds_toArray, List.set_cons_zero, List.set_cons_succ])
                          refine wpAnyH_done (by kernel_rfl) ?_ _
                          have hfr : Fr G B W1 _ := lastF (by assumption)
                          have hob := Hgr.out
                          rw [← E2.out, show w'.heap.size = (w'.setCell ⟨G, a, none⟩ (.slice (some ⟨g', 0, none⟩) (ys.length + 1) c')).heap.size from by rw [setCell_size]] at hob
                          have hpib := hfr.ints Hpib.out Hpl2.out
                          have hdb := hfr.below hGw Hdb.out
                          have hzG : G < (w'.setCell ⟨G, a, none⟩ (.slice (some ⟨g', 0, none⟩) (ys.length + 1) c')).heap.size := Nat.lt_of_lt_of_le (by omega) hfr.size
                          have Hdb := Lib.hid hdb
                          have Hpib := Lib.hid hpib
                          have Hob := Lib.hid hob
                          have HzG := Lib.hid hzG
                          clear hdb hpib hob hzG
                          go_wp2
                          go_roundw
                          case rel => exact ⟨k + 1, _, by omega, by go_num, Hbn3.out, HS2.out, Hob.out, Hpib.out, Hdb.out, HzG.out⟩
                          case measure => simp [intOf]; omega
                        exact AllReadyH.nil
                      exact AllReadyH.nil
                    exact AllReadyH.nil
                  exact AllReadyH.nil
                refine AllReadyH.cons (by simp only [List.getElem?_toArray, List.getElem?_cons_succ, List.getElem?_cons_zero]; rfl) (fun K hK => ?_) ?_
                · (go_simp; (refine (Hcv.out _).mono ?_; rintro e wc ⟨rfl, hbc⟩; have hbw := (below_drew W1).trans hbc; have hhc := keep_of_below hbw _ _ hh1; have hha := (fun (o : Obj) => keep_of_below ((Below.refl wc.heap.size wc).alloc (Nat.le_refl _) o) _ _ hhc); have hoc := Hob.out.below (hbw.mono (by omega)); have hrc := Hrow.out.below (hbw.mono (by omega)); have hzc : B2 ≤ wc.heap.size := Nat.le_trans (by omega) hbw.size; have honc : Fr G B W1.drew wc := Fr.of_below hbc; have hbt := (hbw.block B (by omega)).trans Hbt.out; have hrn := row_ne (n := ys.length) hrc hbt int_ne_res; have Hoc := Lib.hid hoc; have Hrc := Lib.hid (hrc.wide (Nat.le_refl _) hzc); have Hrn := Lib.hid hrn; clear hoc hrc hbc hrn hbt); go_wp2_with fail)
                  refine hK.out _ _ ?_ (fun hHeld => ?_)
                  · (first | assumption | exact ⟨b0, b1, b2, b3, hpc2, Fr.drew _ _ _⟩ | exact keepF (by assumption) (by assumption) hpGh | exact keepF (by assumption) (Fr.alloc _ _ _ _) hpGh | exact keepF (by assumption) (Fr.setCell _ _ _ hGB) hpGh)
                  clear hK K
                  (try simp only [Act.put, List.setIfInBounds_toArray, List.set_cons_zero, List.set_cons_succ])
                  refine wpAnyH_ready (rs := [7, 18]) (by kernel_rfl) (by simp) ?_
                  refine AllReadyH.cons (by simp only [List.getElem?_toArray, List.getElem?_cons_succ, List.getElem?_cons_zero]; rfl) (fun K hK => ?_) ?_
                  · go_simp
                    refine hK.out _ _ ?_ (fun hHeld => ?_)
                    · (first | assumption | exact ⟨b0, b1, b2, b3, hpc2, Fr.drew _ _ _⟩ | exact keepF (by assumption) (by assumption) hpGh | exact keepF (by assumption) (Fr.alloc _ _ _ _) hpGh | exact keepF (by assumption) (Fr.setCell _ _ _ hGB) hpGh)
                    clear hK K
                    (try simp only [Act.put, List.setIfInBounds_toArray, List.set_cons_zero, List.set_cons_succ])
                    refine wpAnyH_ready (rs := [18]) (by kernel_rfl) (by simp) ?_
                    refine AllReadyH.cons (by simp only [List.getElem?_toArray, List.getElem?_cons_succ, List.getElem?_cons_zero]; rfl) (fun K hK => ?_) ?_
                    · go_simp
                      refine hK.out _ _ ?_ (fun hHeld => ?_)
                      · (first | assumption | exact ⟨b0, b1, b2, b3, hpc2, Fr.drew _ _ _⟩ | exact keepF (by assumption) (by assumption) hpGh | exact keepF (by assumption) (Fr.alloc _ _ _ _) hpGh | exact keepF (by assumption) (Fr.setCell _ _ _ hGB) hpGh)
                      clear hK K
                      (try simp only [Act.put, List.setIfInBounds_toArray, List.set_cons_zero, List.set_cons_succ])
                      refine wpAnyH_ready (rs := [19]) (by kernel_rfl) (by simp) ?_
                      refine AllReadyH.cons (by simp only [List.getElem?_toArray, List.getElem?_cons_succ, List.getElem?_cons_zero]; rfl) (fun K hK => ?_) ?_
                      · (refine step_app1 rfl (.tmp 52) (.tmp 63) 33 rfl 3 (.int .i64 0) 8 Try.underlying33 info_int rfl wc G xa xc (ys.map (.int .i64)) Hrc.out (by omega) (.int .i64 v) rfl (by rw [List.length_map]; omega) (by decide) ys.length (by rw [List.length_map]) rfl rfl ?_; intro g' c' w' ho' hg' hg2 hl'; (have hgr := Own2.grow Hoc.out ints_ne2 hzc Hy.out hhc hg' (by rw [List.map_append]; exact ho') hl'); (have hona : Fr G B _ w' := Fr.of_grown hg2 Hrn.out); have hcy := hgr.1; have hfy := hgr.2.1; (have Hgr := Lib.hid hgr.2.2); (obtain ⟨y8, hcy⟩ := hcy); clear hgr ho' hg' hl')
                        refine hK.out _ _ ?_ (fun hHeld => ?_)
                        · (first | assumption | exact ⟨b0, b1, b2, b3, hpc2, Fr.drew _ _ _⟩ | exact keepF (by assumption) (by assumption) hpGh | exact keepF (by assumption) (Fr.alloc _ _ _ _) hpGh | exact keepF (by assumption) (Fr.setCell _ _ _ hGB) hpGh)
                        clear hK K
                        (try simp only [Act.put, List.setIfInBounds_toArray, List.set_cons_zero, List.set_cons_succ])
                        refine wpAnyH_take (i := 20) (v := ?_) (by simp only [List.getElem?_toArray, List.getElem?_cons_succ, List.getElem?_cons_zero]; rfl) (by kernel_rfl) (by kernel_rfl) (by kernel_rfl) (by intro _ _ _ h; exact h) (Or.inl ⟨by rfl, ?_⟩) (by assumption) ?_
                        rotate_left
                        · (intro w hSw; (try dsimp only at hSw); go_simp; (try with_reducible rfl))
                        (try simp only [Act.put, List.setIfInBounds_toArray, List.set_cons_zero, List.set_cons_succ])
                        refine wpAnyH_ready (rs := [21]) (by kernel_rfl) (by simp) ?_
                        refine AllReadyH.cons (by simp only [List.getElem?_toArray, List.getElem?_cons_succ, List.getElem?_cons_zero]; rfl) (fun K hK => ?_) ?_
                        · go_simp
                          refine hK.out _ _ ?_ (fun hHeld => ?_)
                          · (first | assumption | exact ⟨b0, b1, b2, b3, hpc2, Fr.drew _ _ _⟩ | exact keepF (by assumption) (by assumption) hpGh | exact keepF (by assumption) (Fr.alloc _ _ _ _) hpGh | exact keepF (by assumption) (Fr.setCell _ _ _ hGB) hpGh)
                          clear hK K
                          (try simp only [Act.put, List.setIfInBounds_toArray, List.set_cons_zero, List.set_cons_succ])
                          refine wpAnyH_done (by kernel_rfl) ?_ _
                          have hfr : Fr G B W1 _ := lastF (by assumption)
                          have hob := Hgr.out
                          rw [← E2.out, show w'.heap.size = (w'.setCell ⟨G, a, none⟩ (.slice (some ⟨g', 0, none⟩) (ys.length + 1) c')).heap.size from by rw [setCell_size]] at hob
                          have hpib := hfr.ints Hpib.out Hpl2.out
                          have hdb := hfr.below hGw Hdb.out
                          have hzG : G < (w'.setCell ⟨G, a, none⟩ (.slice (some ⟨g', 0, none⟩) (ys.length + 1) c')).heap.size := Nat.lt_of_lt_of_le (by omega) hfr.size
                          have Hdb := Lib.hid hdb
                          have Hpib := Lib.hid hpib
                          have Hob := Lib.hid hob
                          have HzG := Lib.hid hzG
                          clear hdb hpib hob hzG
                          go_wp2
                          go_roundw
                          case rel => exact ⟨k + 1, _, by omega, by go_num, Hbn3.out, HS2.out, Hob.out, Hpib.out, Hdb.out, HzG.out⟩
                          case measure => simp [intOf]; omega
                        exact AllReadyH.nil
                      exact AllReadyH.nil
                    exact AllReadyH.nil
                  refine AllReadyH.cons (by simp only [List.getElem?_toArray, List.getElem?_cons_succ, List.getElem?_cons_zero]; rfl) (fun K hK => ?_) ?_
                  · go_simp
                    refine hK.out _ _ ?_ (fun hHeld => ?_)
                    · (first | assumption | exact ⟨b0, b1, b2, b3, hpc2, Fr.drew _ _ _⟩ | exact keepF (by assumption) (by assumption) hpGh | exact keepF (by assumption) (Fr.alloc _ _ _ _) hpGh | exact keepF (by assumption) (Fr.setCell _ _ _ hGB) hpGh)
                    clear hK K
                    (try simp only [Act.put, List.setIfInBounds_toArray, List.set_cons_zero, List.set_cons_succ])
                    refine wpAnyH_ready (rs := [7]) (by kernel_rfl) (by simp) ?_
                    refine AllReadyH.cons (by simp only [List.getElem?_toArray, List.getElem?_cons_succ, List.getElem?_cons_zero]; rfl) (fun K hK => ?_) ?_
                    · go_simp
                      refine hK.out _ _ ?_ (fun hHeld => ?_)
                      · (first | assumption | exact ⟨b0, b1, b2, b3, hpc2, Fr.drew _ _ _⟩ | exact keepF (by assumption) (by assumption) hpGh | exact keepF (by assumption) (Fr.alloc _ _ _ _) hpGh | exact keepF (by assumption) (Fr.setCell _ _ _ hGB) hpGh)
                      clear hK K
                      (try simp only [Act.put, List.setIfInBounds_toArray, List.set_cons_zero, List.set_cons_succ])
                      refine wpAnyH_ready (rs := [19]) (by kernel_rfl) (by simp) ?_
                      refine AllReadyH.cons (by simp only [List.getElem?_toArray, List.getElem?_cons_succ, List.getElem?_cons_zero]; rfl) (fun K hK => ?_) ?_
                      · (refine step_app1 rfl (.tmp 52) (.tmp 63) 33 rfl 3 (.int .i64 0) 8 Try.underlying33 info_int rfl wc G xa xc (ys.map (.int .i64)) Hrc.out (by omega) (.int .i64 v) rfl (by rw [List.length_map]; omega) (by decide) ys.length (by rw [List.length_map]) rfl rfl ?_; intro g' c' w' ho' hg' hg2 hl'; (have hgr := Own2.grow Hoc.out ints_ne2 hzc Hy.out hhc hg' (by rw [List.map_append]; exact ho') hl'); (have hona : Fr G B _ w' := Fr.of_grown hg2 Hrn.out); have hcy := hgr.1; have hfy := hgr.2.1; (have Hgr := Lib.hid hgr.2.2); (obtain ⟨y8, hcy⟩ := hcy); clear hgr ho' hg' hl')
                        refine hK.out _ _ ?_ (fun hHeld => ?_)
                        · (first | assumption | exact ⟨b0, b1, b2, b3, hpc2, Fr.drew _ _ _⟩ | exact keepF (by assumption) (by assumption) hpGh | exact keepF (by assumption) (Fr.alloc _ _ _ _) hpGh | exact keepF (by assumption) (Fr.setCell _ _ _ hGB) hpGh)
                        clear hK K
                        (try simp only [Act.put, List.setIfInBounds_toArray, List.set_cons_zero, List.set_cons_succ])
                        refine wpAnyH_take (i := 20) (v := ?_) (by simp only [List.getElem?_toArray, List.getElem?_cons_succ, List.getElem?_cons_zero]; rfl) (by kernel_rfl) (by kernel_rfl) (by kernel_rfl) (by intro _ _ _ h; exact h) (Or.inl ⟨by rfl, ?_⟩) (by assumption) ?_
                        rotate_left
                        · (intro w hSw; (try dsimp only at hSw); go_simp; (try with_reducible rfl))
                        (try simp only [Act.put, List.setIfInBounds_toArray, List.set_cons_zero, List.set_cons_succ])
                        refine wpAnyH_ready (rs := [21]) (by kernel_rfl) (by simp) ?_
                        refine AllReadyH.cons (by simp only [List.getElem?_toArray, List.getElem?_cons_succ, List.getElem?_cons_zero]; rfl) (fun K hK => ?_) ?_
                        · go_simp
                          refine hK.out _ _ ?_ (fun hHeld => ?_)
                          · (first | assumption | exact ⟨b0, b1, b2, b3, hpc2, Fr.drew _ _ _⟩ | exact keepF (by assumption) (by assumption) hpGh | exact keepF (by assumption) (Fr.alloc _ _ _ _) hpGh | exact keepF (by assumption) (Fr.setCell _ _ _ hGB) hpGh)
                          clear hK K
                          (try simp only [Act.put, List.setIfInBounds_toArray, List.set_cons_zero, List.set_cons_succ])
                          refine wpAnyH_done (by kernel_rfl) ?_ _
                          have hfr : Fr G B W1 _ := lastF (by assumption)
                          have hob := Hgr.out
                          rw [← E2.out, show w'.heap.size = (w'.setCell ⟨G, a, none⟩ (.slice (some ⟨g', 0, none⟩) (ys.length + 1) c')).heap.size from by rw [setCell_size]] at hob
                          have hpib := hfr.ints Hpib.out Hpl2.out
                          have hdb := hfr.below hGw Hdb.out
                          have hzG : G < (w'.setCell ⟨G, a, none⟩ (.slice (some ⟨g', 0, none⟩) (ys.length + 1) c')).heap.size := Nat.lt_of_lt_of_le (by omega) hfr.size
                          have Hdb := Lib.hid hdb
                          have Hpib := Lib.hid hpib
                          have Hob := Lib.hid hob
                          have HzG := Lib.hid hzG
                          clear hdb hpib hob hzG
                          go_wp2
                          go_roundw
                          case rel => exact ⟨k + 1, _, by omega, by go_num, Hbn3.out, HS2.out, Hob.out, Hpib.out, Hdb.out, HzG.out⟩
                          case measure => simp [intOf]; omega
                        exact AllReadyH.nil
                      exact AllReadyH.nil
                    exact AllReadyH.nil
                  exact AllReadyH.nil
                exact AllReadyH.nil
              exact AllReadyH.nil
            exact AllReadyH.nil
          exact AllReadyH.nil
        refine AllReadyH.cons (by simp only [List.getElem?_toArray, List.getElem?_cons_succ, List.getElem?_cons_zero]; rfl) (fun K hK => ?_) ?_
        · go_simp
          refine hK.out _ _ ?_ (fun hHeld => ?_)
          · (first | assumption | exact ⟨b0, b1, b2, b3, hqc, Fr.drew _ _ _⟩ | exact keepF (by assumption) (by assumption) hpGa | exact keepF (by assumption) (Fr.alloc _ _ _ _) hpGa | exact keepF (by assumption) (Fr.setCell _ _ _ hGB) hpGa)
          clear hK K
          (try simp only [Act.put, List.setIfInBounds_toArray, List.set_cons_zero, List.set_cons_succ])
          refine wpAnyH_ready (rs := [7]) (by kernel_rfl) (by simp) ?_
          refine AllReadyH.cons (by simp only [List.getElem?_toArray, List.getElem?_cons_succ, List.getElem?_cons_zero]; rfl) (fun K hK => ?_) ?_
          · go_simp
            refine hK.out _ _ ?_ (fun hHeld => ?_)
            · (first | assumption | exact ⟨b0, b1, b2, b3, hqc, Fr.drew _ _ _⟩ | exact keepF (by assumption) (by assumption) hpGa | exact keepF (by assumption) (Fr.alloc _ _ _ _) hpGa | exact keepF (by assumption) (Fr.setCell _ _ _ hGB) hpGa)
            clear hK K
            (try simp only [Act.put, List.setIfInBounds_toArray, List.set_cons_zero, List.set_cons_succ])
            refine wpAnyH_ready (rs := [19]) (by kernel_rfl) (by simp) ?_
            refine AllReadyH.cons (by simp only [List.getElem?_toArray, List.getElem?_cons_succ, List.getElem?_cons_zero]; rfl) (fun K hK => ?_) ?_
            · (refine step_app1 rfl (.tmp 31) (.tmp 42) 33 rfl 3 (.int .i64 0) 8 Try.underlying33 info_int rfl wc G xa xc (xs.map (.int .i64)) Hrc.out (by omega) (.int .i64 u) rfl (by rw [List.length_map]; omega) (by decide) xs.length (by rw [List.length_map]) rfl rfl ?_; intro g' c' w' ho' hg' hg2 hl'; (have hgr := Own2.grow Hoc.out ints_ne2 hzc Hx.out hhc hg' (by rw [List.map_append]; exact ho') hl'); (have hona : Fr G B _ w' := Fr.of_grown hg2 Hrn.out); have hcy := hgr.1; have hfy := hgr.2.1; (have Hgr := Lib.hid hgr.2.2); (obtain ⟨y8, hcy⟩ := hcy); clear hgr ho' hg' hl')
              refine hK.out _ _ ?_ (fun hHeld => ?_)
              · (first | assumption | exact ⟨b0, b1, b2, b3, hqc, Fr.drew _ _ _⟩ | exact keepF (by assumption) (by assumption) hpGa | exact keepF (by assumption) (Fr.alloc _ _ _ _) hpGa | exact keepF (by assumption) (Fr.setCell _ _ _ hGB) hpGa)
              clear hK K
              (try simp only [Act.put, List.setIfInBounds_toArray, List.set_cons_zero, List.set_cons_succ])
              refine wpAnyH_take (i := 20) (v := ?_) (by simp only [List.getElem?_toArray, List.getElem?_cons_succ, List.getElem?_cons_zero]; rfl) (by kernel_rfl) (by kernel_rfl) (by kernel_rfl) (by intro _ _ _ h; exact h) (Or.inl ⟨by rfl, ?_⟩) (by assumption) ?_
              rotate_left
              · (intro w hSw; (try dsimp only at hSw); go_simp; (try with_reducible rfl))
              (try simp only [Act.put, List.setIfInBounds_toArray, List.set_cons_zero, List.set_cons_succ])
              refine wpAnyH_ready (rs := [21]) (by kernel_rfl) (by simp) ?_
              refine AllReadyH.cons (by simp only [List.getElem?_toArray, List.getElem?_cons_succ, List.getElem?_cons_zero]; rfl) (fun K hK => ?_) ?_
              · go_simp
                refine hK.out _ _ ?_ (fun hHeld => ?_)
                · (first | assumption | exact ⟨b0, b1, b2, b3, hqc, Fr.drew _ _ _⟩ | exact keepF (by assumption) (by assumption) hpGa | exact keepF (by assumption) (Fr.alloc _ _ _ _) hpGa | exact keepF (by assumption) (Fr.setCell _ _ _ hGB) hpGa)
                clear hK K
                (try simp only [Act.put, List.setIfInBounds_toArray, List.set_cons_zero, List.set_cons_succ])
                refine wpAnyH_done (by kernel_rfl) ?_ _
                have hfr : Fr G B wb _ := lastF (by assumption)
                go_wp2
                obtain ⟨W1, hW1⟩ : ∃ W1, W1 = w'.setCell ⟨G, h, none⟩ (.slice (some ⟨g', 0, none⟩) (xs.length + 1) c') := ⟨_, rfl⟩
                have hs1 : w'.heap.size = W1.heap.size := by rw [hW1, setCell_size]
                have hob := Hgr.out
                rw [← E1.out, hs1, ← hW1] at hob
                rw [← hW1] at hfr ⊢
                replace b0 := hfr.cell b0 (.inr rfl)
                replace b1 := hfr.cell b1 (.inr rfl)
                replace b2 := hfr.cell b2 (.inr rfl)
                replace b3 := hfr.cell b3 (.inr rfl)
                replace hpc2 := hfr.cell hpc2 (.inl hpGh)
                replace Hpib := Lib.hid (hfr.ints Hpib.out Hpl2.out)
                replace Hdb := Lib.hid (hfr.below hGw Hdb.out)
                replace Hbt := Lib.hid ((hfr.block B hBb1 (.inr rfl)).trans Hbt.out)
                have hzW := hfr.size
                clear hcy hfy hhc hha hfr Hgr Hoc Hrc Hob Hrow hW1 hzc hbw honc hona Hrn hg2
                obtain ⟨B2, hB2⟩ : ∃ B2, W1.heap.size = B2 := ⟨_, rfl⟩
                rw [hB2] at hob
                obtain ⟨xa, xc, hh1, hrow, _⟩ := hob.own_of Hy.out
                have hBb1 : B < W1.heap.size := by omega
                have Hob := Lib.hid hob
                have Hrow := Lib.hid hrow
                clear hob hrow
                clear hs1
                refine wp_region_held_drew (S := (fun W' => W'.cell? ⟨B, 0, none⟩ = some (.int .i64 (h : Int)) ∧ W'.cell? ⟨B, 1, none⟩ = some (.int .i64 (a : Int)) ∧ W'.cell? ⟨B, 2, none⟩ = some (.int .i64 rg) ∧ W'.cell? ⟨B, 3, none⟩ = some (.int .i64 rt) ∧ W'.cell? (pd.add h) = some (.int .i64 p) ∧ Fr G B W1 W')) (by kernel_rfl) ?_ (fun hHeld => ?_)
                · (first | assumption | exact ⟨b0, b1, b2, b3, hpc2, Fr.drew _ _ _⟩ | exact keepF (by assumption) (by assumption) hpGh | exact keepF (by assumption) (Fr.alloc _ _ _ _) hpGh | exact keepF (by assumption) (Fr.setCell _ _ _ hGB) hpGh)
                refine wpAnyH_take (i := 0) (v := ?_) (by simp only [List.getElem?_toArray, List.getElem?_cons_succ, List.getElem?_cons_zero]; rfl) (by kernel_rfl) (by kernel_rfl) (by kernel_rfl) (by intro _ _ _ h; exact h) (Or.inl ⟨by rfl, ?_⟩) (by assumption) ?_
                rotate_left
                · (intro w hSw; (try dsimp only at hSw); go_simp; (try with_reducible rfl))
                (try simp only [Act.put, List.setIfInBounds_toArray, List.set_cons_zero, List.set_cons_succ])
                refine wpAnyH_take (i := 1) (v := ?_) (by simp only [List.getElem?_toArray, List.getElem?_cons_succ, List.getElem?_cons_zero]; rfl) (by kernel_rfl) (by kernel_rfl) (by kernel_rfl) (by intro _ _ _ h; exact h) (Or.inl ⟨by rfl, ?_⟩) (by assumption) ?_
                rotate_left
                · (intro w hSw; (try dsimp only at hSw); go_simp; (try with_reducible rfl))
                (try simp only [Act.put, List.setIfInBounds_toArray, List.set_cons_zero, List.set_cons_succ])
                refine wpAnyH_take (i := 2) (v := ?_) (by simp only [List.getElem?_toArray, List.getElem?_cons_succ, List.getElem?_cons_zero]; rfl) (by kernel_rfl) (by kernel_rfl) (by kernel_rfl) (by intro _ _ _ h; exact h) (Or.inl ⟨by rfl, ?_⟩) (by assumption) ?_
                rotate_left
                · (intro w hSw; (try dsimp only at hSw); go_simp; (try with_reducible rfl))
                (try simp only [Act.put, List.setIfInBounds_toArray, List.set_cons_zero, List.set_cons_succ])
                refine wpAnyH_take (i := 3) (v := ?_) (by simp only [List.getElem?_toArray, List.getElem?_cons_succ, List.getElem?_cons_zero]; rfl) (by kernel_rfl) (by kernel_rfl) (by kernel_rfl) (by intro _ _ _ h; exact h) (Or.inl ⟨by rfl, ?_⟩) (by assumption) ?_
                rotate_left
                · (intro w hSw; (try dsimp only at hSw); go_simp; (try with_reducible rfl))
                (try simp only [Act.put, List.setIfInBounds_toArray, List.set_cons_zero, List.set_cons_succ])
                refine wpAnyH_take (i := 4) (v := ?_) (by simp only [List.getElem?_toArray, List.getElem?_cons_succ, List.getElem?_cons_zero]; rfl) (by kernel_rfl) (by kernel_rfl) (by kernel_rfl) (by intro _ _ _ h; exact h) (Or.inl ⟨by rfl, ?_⟩) (by assumption) ?_
                rotate_left
                · (intro w hSw; (try dsimp only at hSw); go_simp; (try with_reducible rfl))
                (try simp only [Act.put, List.setIfInBounds_toArray, List.set_cons_zero, List.set_cons_succ])
                refine wpAnyH_take (i := 5) (v := ?_) (by simp only [List.getElem?_toArray, List.getElem?_cons_succ, List.getElem?_cons_zero]; rfl) (by kernel_rfl) (by kernel_rfl) (by kernel_rfl) (by intro _ _ _ h; exact h) (Or.inl ⟨by rfl, ?_⟩) (by assumption) ?_
                rotate_left
                · (intro w hSw; (try dsimp only at hSw); go_simp; (try with_reducible rfl))
                (try simp only [Act.put, List.setIfInBounds_toArray, List.set_cons_zero, List.set_cons_succ])
                refine wpAnyH_take (i := 6) (v := ?_) (by simp only [List.getElem?_toArray, List.getElem?_cons_succ, List.getElem?_cons_zero]; rfl) (by kernel_rfl) (by kernel_rfl) (by kernel_rfl) (by intro _ _ _ h; exact h) (Or.inl ⟨by rfl, ?_⟩) (by assumption) ?_
                rotate_left
                · (intro w hSw; (try dsimp only at hSw); go_simp; (try with_reducible rfl))
                (try simp only [Act.put, List.setIfInBounds_toArray, List.set_cons_zero, List.set_cons_succ])
                refine wpAnyH_take (i := 8) (v := ?_) (by simp only [List.getElem?_toArray, List.getElem?_cons_succ, List.getElem?_cons_zero]; rfl) (by kernel_rfl) (by kernel_rfl) (by kernel_rfl) (by intro _ _ _ h; exact h) (Or.inl ⟨by rfl, ?_⟩) (by assumption) ?_
                rotate_left
                · (intro w hSw; (try dsimp only at hSw); go_simp; (try with_reducible rfl))
                (try simp only [Act.put, List.setIfInBounds_toArray, List.set_cons_zero, List.set_cons_succ])
                refine wpAnyH_take (i := 9) (v := ?_) (by simp only [List.getElem?_toArray, List.getElem?_cons_succ, List.getElem?_cons_zero]; rfl) (by kernel_rfl) (by kernel_rfl) (by kernel_rfl) (by intro _ _ _ h; exact h) (Or.inl ⟨by rfl, ?_⟩) (by assumption) ?_
                rotate_left
                · (intro w hSw; (try dsimp only at hSw); go_simp; (try with_reducible rfl))
                (try simp only [Act.put, List.setIfInBounds_toArray, List.set_cons_zero, List.set_cons_succ])
                refine wpAnyH_take (i := 10) (v := ?_) (by simp only [List.getElem?_toArray, List.getElem?_cons_succ, List.getElem?_cons_zero]; rfl) (by kernel_rfl) (by kernel_rfl) (by kernel_rfl) (by intro _ _ _ h; exact h) (Or.inl ⟨by rfl, ?_⟩) (by assumption) ?_
                rotate_left
                · (intro w hSw; (try dsimp only at hSw); go_simp; (try with_reducible rfl))
                (try simp only [Act.put, List.setIfInBounds_toArray, List.set_cons_zero, List.set_cons_succ])
                refine wpAnyH_take (i := 11) (v := ?_) (by simp only [List.getElem?_toArray, List.getElem?_cons_succ, List.getElem?_cons_zero]; rfl) (by kernel_rfl) (by kernel_rfl) (by kernel_rfl) (by intro _ _ _ h; exact h) (Or.inl ⟨by rfl, ?_⟩) (by assumption) ?_
                rotate_left
                · (intro w hSw; (try dsimp only at hSw); go_simp; (try with_reducible rfl))
                (try simp only [Act.put, List.setIfInBounds_toArray, List.set_cons_zero, List.set_cons_succ])
                refine wpAnyH_take (i := 12) (v := ?_) (by simp only [List.getElem?_toArray, List.getElem?_cons_succ, List.getElem?_cons_zero]; rfl) (by kernel_rfl) (by kernel_rfl) (by kernel_rfl) (by intro _ _ _ h; exact h) (Or.inl ⟨by rfl, ?_⟩) (by assumption) ?_
                rotate_left
                · (intro w hSw; (try dsimp only at hSw); go_simp; (try with_reducible rfl))
                (try simp only [Act.put, List.setIfInBounds_toArray, List.set_cons_zero, List.set_cons_succ])
                refine wpAnyH_take (i := 13) (v := ?_) (by simp only [List.getElem?_toArray, List.getElem?_cons_succ, List.getElem?_cons_zero]; rfl) (by kernel_rfl) (by kernel_rfl) (by kernel_rfl) (by intro _ _ _ h; exact h) (Or.inl ⟨by rfl, ?_⟩) (by assumption) ?_
                rotate_left
                · (intro w hSw; (try dsimp only at hSw); go_simp; (try with_reducible rfl))
                (try simp only [Act.put, List.setIfInBounds_toArray, List.set_cons_zero, List.set_cons_succ])
                refine wpAnyH_take (i := 14) (v := ?_) (by simp only [List.getElem?_toArray, List.getElem?_cons_succ, List.getElem?_cons_zero]; rfl) (by kernel_rfl) (by kernel_rfl) (by kernel_rfl) (by intro _ _ _ h; exact h) (Or.inl ⟨by rfl, ?_⟩) (by assumption) ?_
                rotate_left
                · (intro w hSw; (try dsimp only at hSw); go_simp; (try with_reducible rfl))
                (try simp only [Act.put, List.setIfInBounds_toArray, List.set_cons_zero, List.set_cons_succ])
                refine wpAnyH_take (i := 15) (v := ?_) (by simp only [List.getElem?_toArray, List.getElem?_cons_succ, List.getElem?_cons_zero]; rfl) (by kernel_rfl) (by kernel_rfl) (by kernel_rfl) (by intro _ _ _ h; exact h) (Or.inl ⟨by rfl, ?_⟩) (by assumption) ?_
                rotate_left
                · (intro w hSw; (try dsimp only at hSw); go_simp; (try with_reducible rfl))
                (try simp only [Act.put, List.setIfInBounds_toArray, List.set_cons_zero, List.set_cons_succ])
                refine wpAnyH_take (i := 16) (v := ?_) (by simp only [List.getElem?_toArray, List.getElem?_cons_succ, List.getElem?_cons_zero]; rfl) (by kernel_rfl) (by kernel_rfl) (by kernel_rfl) (by intro _ _ _ h; exact h) (Or.inl ⟨by rfl, ?_⟩) (by assumption) ?_
                rotate_left
                · (intro w hSw; (try dsimp only at hSw); go_simp; (try with_reducible rfl))
                (try simp only [Act.put, List.setIfInBounds_toArray, List.set_cons_zero, List.set_cons_succ])
                refine wpAnyH_ready (rs := [7, 17]) (by kernel_rfl) (by simp) ?_
                refine AllReadyH.cons (by simp only [List.getElem?_toArray, List.getElem?_cons_succ, List.getElem?_cons_zero]; rfl) (fun K hK => ?_) ?_
                · go_simp
                  refine hK.out _ _ ?_ (fun hHeld => ?_)
                  · (first | assumption | exact ⟨b0, b1, b2, b3, hpc2, Fr.drew _ _ _⟩ | exact keepF (by assumption) (by assumption) hpGh | exact keepF (by assumption) (Fr.alloc _ _ _ _) hpGh | exact keepF (by assumption) (Fr.setCell _ _ _ hGB) hpGh)
                  clear hK K
                  (try simp only [Act.put, List.setIfInBounds_toArray, List.set_cons_zero, List.set_cons_succ])
                  refine wpAnyH_ready (rs := [17]) (by kernel_rfl) (by simp) ?_
                  refine AllReadyH.cons (by simp only [List.getElem?_toArray, List.getElem?_cons_succ, List.getElem?_cons_zero]; rfl) (fun K hK => ?_) ?_
                  · (go_simp; (refine (Hcv.out _).mono ?_; rintro e wc ⟨rfl, hbc⟩; have hbw := (below_drew W1).trans hbc; have hhc := keep_of_below hbw _ _ hh1; have hha := (fun (o : Obj) => keep_of_below ((Below.refl wc.heap.size wc).alloc (Nat.le_refl _) o) _ _ hhc); have hoc := Hob.out.below (hbw.mono (by omega)); have hrc := Hrow.out.below (hbw.mono (by omega)); have hzc : B2 ≤ wc.heap.size := Nat.le_trans (by omega) hbw.size; have honc : Fr G B W1.drew wc := Fr.of_below hbc; have hbt := (hbw.block B (by omega)).trans Hbt.out; have hrn := row_ne (n := ys.length) hrc hbt int_ne_res; have Hoc := Lib.hid hoc; have Hrc := Lib.hid (hrc.wide (Nat.le_refl _) hzc); have Hrn := Lib.hid hrn; clear hoc hrc hbc hrn hbt); go_wp2_with fail)
                    refine hK.out _ _ ?_ (fun hHeld => ?_)
                    · (first | assumption | exact ⟨b0, b1, b2, b3, hpc2, Fr.drew _ _ _⟩ | exact keepF (by assumption) (by assumption) hpGh | exact keepF (by assumption) (Fr.alloc _ _ _ _) hpGh | exact keepF (by assumption) (Fr.setCell _ _ _ hGB) hpGh)
                    clear hK K
                    (try simp only [Act.put, List.setIfInBounds_toArray, List.set_cons_zero, List.set_cons_succ])
                    refine wpAnyH_ready (rs := [18]) (by kernel_rfl) (by simp) ?_
                    refine AllReadyH.cons (by simp only [List.getElem?_toArray, List.getElem?_cons_succ, List.getElem?_cons_zero]; rfl) (fun K hK => ?_) ?_
                    · go_simp
                      refine hK.out _ _ ?_ (fun hHeld => ?_)
                      · (first | assumption | exact ⟨b0, b1, b2, b3, hpc2, Fr.drew _ _ _⟩ | exact keepF (by assumption) (by assumption) hpGh | exact keepF (by assumption) (Fr.alloc _ _ _ _) hpGh | exact keepF (by assumption) (Fr.setCell _ _ _ hGB) hpGh)
                      clear hK K
                      (try simp only [Act.put, List.setIfInBounds_toArray, List.set_cons_zero, List.set_cons_succ])
                      refine wpAnyH_ready (rs := [19]) (by kernel_rfl) (by simp) ?_
                      refine AllReadyH.cons (by simp only [List.getElem?_toArray, List.getElem?_cons_succ, List.getElem?_cons_zero]; rfl) (fun K hK => ?_) ?_
                      · (refine step_app1 rfl (.tmp 52) (.tmp 63) 33 rfl 3 (.int .i64 0) 8 Try.underlying33 info_int rfl wc G xa xc (ys.map (.int .i64)) Hrc.out (by omega) (.int .i64 v) rfl (by rw [List.length_map]; omega) (by decide) ys.length (by rw [List.length_map]) rfl rfl ?_; intro g' c' w' ho' hg' hg2 hl'; (have hgr := Own2.grow Hoc.out ints_ne2 hzc Hy.out hhc hg' (by rw [List.map_append]; exact ho') hl'); (have hona : Fr G B _ w' := Fr.of_grown hg2 Hrn.out); have hcy := hgr.1; have hfy := hgr.2.1; (have Hgr := Lib.hid hgr.2.2); (obtain ⟨y8, hcy⟩ := hcy); clear hgr ho' hg' hl')
                        refine hK.out _ _ ?_ (fun hHeld => ?_)
                        · (first | assumption | exact ⟨b0, b1, b2, b3, hpc2, Fr.drew _ _ _⟩ | exact keepF (by assumption) (by assumption) hpGh | exact keepF (by assumption) (Fr.alloc _ _ _ _) hpGh | exact keepF (by assumption) (Fr.setCell _ _ _ hGB) hpGh)
                        clear hK K
                        (try simp only [Act.put, List.setIfInBounds_toArray, List.set_cons_zero, List.set_cons_succ])
                        refine wpAnyH_take (i := 20) (v := ?_) (by simp only [List.getElem?_toArray, List.getElem?_cons_succ, List.getElem?_cons_zero]; rfl) (by kernel_rfl) (by kernel_rfl) (by kernel_rfl) (by intro _ _ _ h; exact h) (Or.inl ⟨by rfl, ?_⟩) (by assumption) ?_
                        rotate_left
                        · (intro w hSw; (try dsimp only at hSw); go_simp; (try with_reducible rfl))
                        (try simp only [Act.put, List.setIfInBounds_toArray, List.set_cons_zero, List.set_cons_succ])
                        refine wpAnyH_ready (rs := [21]) (by kernel_rfl) (by simp) ?_
                        refine AllReadyH.cons (by simp only [List.getElem?_toArray, List.getElem?_cons_succ, List.getElem?_cons_zero]; rfl) (fun K hK => ?_) ?_
                        · go_simp
                          refine hK.out _ _ ?_ (fun hHeld => ?_)
                          · (first | assumption | exact ⟨b0, b1, b2, b3, hpc2, Fr.drew _ _ _⟩ | exact keepF (by assumption) (by assumption) hpGh | exact keepF (by assumption) (Fr.alloc _ _ _ _) hpGh | exact keepF (by assumption) (Fr.setCell _ _ _ hGB) hpGh)
                          clear hK K
                          (try simp only [Act.put, List.setIfInBounds_toArray, List.set_cons_zero, List.set_cons_succ])
                          refine wpAnyH_done (by kernel_rfl) ?_ _
                          have hfr : Fr G B W1 _ := lastF (by assumption)
                          have hob := Hgr.out
                          rw [← E2.out, show w'.heap.size = (w'.setCell ⟨G, a, none⟩ (.slice (some ⟨g', 0, none⟩) (ys.length + 1) c')).heap.size from by rw [setCell_size]] at hob
                          have hpib := hfr.ints Hpib.out Hpl2.out
                          have hdb := hfr.below hGw Hdb.out
                          have hzG : G < (w'.setCell ⟨G, a, none⟩ (.slice (some ⟨g', 0, none⟩) (ys.length + 1) c')).heap.size := Nat.lt_of_lt_of_le (by omega) hfr.size
                          have Hdb := Lib.hid hdb
                          have Hpib := Lib.hid hpib
                          have Hob := Lib.hid hob
                          have HzG := Lib.hid hzG
                          clear hdb hpib hob hzG
                          go_wp2
                          go_roundw
                          case rel => exact ⟨k + 1, _, by omega, by go_num, Hbn3.out, HS2.out, Hob.out, Hpib.out, Hdb.out, HzG.out⟩
                          case measure => simp [intOf]; omega
                        exact AllReadyH.nil
                      exact AllReadyH.nil
                    exact AllReadyH.nil
                  exact AllReadyH.nil
                refine AllReadyH.cons (by simp only [List.getElem?_toArray, List.getElem?_cons_succ, List.getElem?_cons_zero]; rfl) (fun K hK => ?_) ?_
                · (go_simp; (refine (Hcv.out _).mono ?_; rintro e wc ⟨rfl, hbc⟩; have hbw := (below_drew W1).trans hbc; have hhc := keep_of_below hbw _ _ hh1; have hha := (fun (o : Obj) => keep_of_below ((Below.refl wc.heap.size wc).alloc (Nat.le_refl _) o) _ _ hhc); have hoc := Hob.out.below (hbw.mono (by omega)); have hrc := Hrow.out.below (hbw.mono (by omega)); have hzc : B2 ≤ wc.heap.size := Nat.le_trans (by omega) hbw.size; have honc : Fr G B W1.drew wc := Fr.of_below hbc; have hbt := (hbw.block B (by omega)).trans Hbt.out; have hrn := row_ne (n := ys.length) hrc hbt int_ne_res; have Hoc := Lib.hid hoc; have Hrc := Lib.hid (hrc.wide (Nat.le_refl _) hzc); have Hrn := Lib.hid hrn; clear hoc hrc hbc hrn hbt); go_wp2_with fail)
                  refine hK.out _ _ ?_ (fun hHeld => ?_)
                  · (first | assumption | exact ⟨b0, b1, b2, b3, hpc2, Fr.drew _ _ _⟩ | exact keepF (by assumption) (by assumption) hpGh | exact keepF (by assumption) (Fr.alloc _ _ _ _) hpGh | exact keepF (by assumption) (Fr.setCell _ _ _ hGB) hpGh)
                  clear hK K
                  (try simp only [Act.put, List.setIfInBounds_toArray, List.set_cons_zero, List.set_cons_succ])
                  refine wpAnyH_ready (rs := [7, 18]) (by kernel_rfl) (by simp) ?_
                  refine AllReadyH.cons (by simp only [List.getElem?_toArray, List.getElem?_cons_succ, List.getElem?_cons_zero]; rfl) (fun K hK => ?_) ?_
                  · go_simp
                    refine hK.out _ _ ?_ (fun hHeld => ?_)
                    · (first | assumption | exact ⟨b0, b1, b2, b3, hpc2, Fr.drew _ _ _⟩ | exact keepF (by assumption) (by assumption) hpGh | exact keepF (by assumption) (Fr.alloc _ _ _ _) hpGh | exact keepF (by assumption) (Fr.setCell _ _ _ hGB) hpGh)
                    clear hK K
                    (try simp only [Act.put, List.setIfInBounds_toArray, List.set_cons_zero, List.set_cons_succ])
                    refine wpAnyH_ready (rs := [18]) (by kernel_rfl) (by simp) ?_
                    refine AllReadyH.cons (by simp only [List.getElem?_toArray, List.getElem?_cons_succ, List.getElem?_cons_zero]; rfl) (fun K hK => ?_) ?_
                    · go_simp
                      refine hK.out _ _ ?_ (fun hHeld => ?_)
                      · (first | assumption | exact ⟨b0, b1, b2, b3, hpc2, Fr.drew _ _ _⟩ | exact keepF (by assumption) (by assumption) hpGh | exact keepF (by assumption) (Fr.alloc _ _ _ _) hpGh | exact keepF (by assumption) (Fr.setCell _ _ _ hGB) hpGh)
                      clear hK K
                      (try simp only [Act.put, List.setIfInBounds_toArray, List.set_cons_zero, List.set_cons_succ])
                      refine wpAnyH_ready (rs := [19]) (by kernel_rfl) (by simp) ?_
                      refine AllReadyH.cons (by simp only [List.getElem?_toArray, List.getElem?_cons_succ, List.getElem?_cons_zero]; rfl) (fun K hK => ?_) ?_
                      · (refine step_app1 rfl (.tmp 52) (.tmp 63) 33 rfl 3 (.int .i64 0) 8 Try.underlying33 info_int rfl wc G xa xc (ys.map (.int .i64)) Hrc.out (by omega) (.int .i64 v) rfl (by rw [List.length_map]; omega) (by decide) ys.length (by rw [List.length_map]) rfl rfl ?_; intro g' c' w' ho' hg' hg2 hl'; (have hgr := Own2.grow Hoc.out ints_ne2 hzc Hy.out hhc hg' (by rw [List.map_append]; exact ho') hl'); (have hona : Fr G B _ w' := Fr.of_grown hg2 Hrn.out); have hcy := hgr.1; have hfy := hgr.2.1; (have Hgr := Lib.hid hgr.2.2); (obtain ⟨y8, hcy⟩ := hcy); clear hgr ho' hg' hl')
                        refine hK.out _ _ ?_ (fun hHeld => ?_)
                        · (first | assumption | exact ⟨b0, b1, b2, b3, hpc2, Fr.drew _ _ _⟩ | exact keepF (by assumption) (by assumption) hpGh | exact keepF (by assumption) (Fr.alloc _ _ _ _) hpGh | exact keepF (by assumption) (Fr.setCell _ _ _ hGB) hpGh)
                        clear hK K
                        (try simp only [Act.put, List.setIfInBounds_toArray, List.set_cons_zero, List.set_cons_succ])
                        refine wpAnyH_take (i := 20) (v := ?_) (by simp only [List.getElem?_toArray, List.getElem?_cons_succ, List.getElem?_cons_zero]; rfl) (by kernel_rfl) (by kernel_rfl) (by kernel_rfl) (by intro _ _ _ h; exact h) (Or.inl ⟨by rfl, ?_⟩) (by assumption) ?_
                        rotate_left
                        · (intro w hSw; (try dsimp only at hSw); go_simp; (try with_reducible rfl))
                        (try simp only [Act.put, List.setIfInBounds_toArray, List.set_cons_zero, List.set_cons_succ])
                        refine wpAnyH_ready (rs := [21]) (by kernel_rfl) (by simp) ?_
                        refine AllReadyH.cons (by simp only [List.getElem?_toArray, List.getElem?_cons_succ, List.getElem?_cons_zero]; rfl) (fun K hK => ?_) ?_
                        · go_simp
                          refine hK.out _ _ ?_ (fun hHeld => ?_)
                          · (first | assumption | exact ⟨b0, b1, b2, b3, hpc2, Fr.drew _ _ _⟩ | exact keepF (by assumption) (by assumption) hpGh | exact keepF (by assumption) (Fr.alloc _ _ _ _) hpGh | exact keepF (by assumption) (Fr.setCell _ _ _ hGB) hpGh)
                          clear hK K
                          (try simp only [Act.put, List.setIfInBounds_toArray, List.set_cons_zero, List.set_cons_succ])
                          refine wpAnyH_done (by kernel_rfl) ?_ _
                          have hfr : Fr G B W1 _ := lastF (by assumption)
                          have hob := Hgr.out
                          rw [← E2.out, show w'.heap.size = (w'.setCell ⟨G, a, none⟩ (.slice (some ⟨g', 0, none⟩) (ys.length + 1) c')).heap.size from by rw [setCell_size]] at hob
                          have hpib := hfr.ints Hpib.out Hpl2.out
                          have hdb := hfr.below hGw Hdb.out
                          have hzG : G < (w'.setCell ⟨G, a, none⟩ (.slice (some ⟨g', 0, none⟩) (ys.length + 1) c')).heap.size := Nat.lt_of_lt_of_le (by omega) hfr.size
                          have Hdb := Lib.hid hdb
                          have Hpib := Lib.hid hpib
                          have Hob := Lib.hid hob
                          have HzG := Lib.hid hzG
                          clear hdb hpib hob hzG
                          go_wp2
                          go_roundw
                          case rel => exact ⟨k + 1, _, by omega, by go_num, Hbn3.out, HS2.out, Hob.out, Hpib.out, Hdb.out, HzG.out⟩
                          case measure => simp [intOf]; omega
                        exact AllReadyH.nil
                      exact AllReadyH.nil
                    exact AllReadyH.nil
                  refine AllReadyH.cons (by simp only [List.getElem?_toArray, List.getElem?_cons_succ, List.getElem?_cons_zero]; rfl) (fun K hK => ?_) ?_
                  · go_simp
                    refine hK.out _ _ ?_ (fun hHeld => ?_)
                    · (first | assumption | exact ⟨b0, b1, b2, b3, hpc2, Fr.drew _ _ _⟩ | exact keepF (by assumption) (by assumption) hpGh | exact keepF (by assumption) (Fr.alloc _ _ _ _) hpGh | exact keepF (by assumption) (Fr.setCell _ _ _ hGB) hpGh)
                    clear hK K
                    (try simp only [Act.put, List.setIfInBounds_toArray, List.set_cons_zero, List.set_cons_succ])
                    refine wpAnyH_ready (rs := [7]) (by kernel_rfl) (by simp) ?_
                    refine AllReadyH.cons (by simp only [List.getElem?_toArray, List.getElem?_cons_succ, List.getElem?_cons_zero]; rfl) (fun K hK => ?_) ?_
                    · go_simp
                      refine hK.out _ _ ?_ (fun hHeld => ?_)
                      · (first | assumption | exact ⟨b0, b1, b2, b3, hpc2, Fr.drew _ _ _⟩ | exact keepF (by assumption) (by assumption) hpGh | exact keepF (by assumption) (Fr.alloc _ _ _ _) hpGh | exact keepF (by assumption) (Fr.setCell _ _ _ hGB) hpGh)
                      clear hK K
                      (try simp only [Act.put, List.setIfInBounds_toArray, List.set_cons_zero, List.set_cons_succ])
                      refine wpAnyH_ready (rs := [19]) (by kernel_rfl) (by simp) ?_
                      refine AllReadyH.cons (by simp only [List.getElem?_toArray, List.getElem?_cons_succ, List.getElem?_cons_zero]; rfl) (fun K hK => ?_) ?_
                      · (refine step_app1 rfl (.tmp 52) (.tmp 63) 33 rfl 3 (.int .i64 0) 8 Try.underlying33 info_int rfl wc G xa xc (ys.map (.int .i64)) Hrc.out (by omega) (.int .i64 v) rfl (by rw [List.length_map]; omega) (by decide) ys.length (by rw [List.length_map]) rfl rfl ?_; intro g' c' w' ho' hg' hg2 hl'; (have hgr := Own2.grow Hoc.out ints_ne2 hzc Hy.out hhc hg' (by rw [List.map_append]; exact ho') hl'); (have hona : Fr G B _ w' := Fr.of_grown hg2 Hrn.out); have hcy := hgr.1; have hfy := hgr.2.1; (have Hgr := Lib.hid hgr.2.2); (obtain ⟨y8, hcy⟩ := hcy); clear hgr ho' hg' hl')
                        refine hK.out _ _ ?_ (fun hHeld => ?_)
                        · (first | assumption | exact ⟨b0, b1, b2, b3, hpc2, Fr.drew _ _ _⟩ | exact keepF (by assumption) (by assumption) hpGh | exact keepF (by assumption) (Fr.alloc _ _ _ _) hpGh | exact keepF (by assumption) (Fr.setCell _ _ _ hGB) hpGh)
                        clear hK K
                        (try simp only [Act.put, List.setIfInBounds_toArray, List.set_cons_zero, List.set_cons_succ])
                        refine wpAnyH_take (i := 20) (v := ?_) (by simp only [List.getElem?_toArray, List.getElem?_cons_succ, List.getElem?_cons_zero]; rfl) (by kernel_rfl) (by kernel_rfl) (by kernel_rfl) (by intro _ _ _ h; exact h) (Or.inl ⟨by rfl, ?_⟩) (by assumption) ?_
                        rotate_left
                        · (intro w hSw; (try dsimp only at hSw); go_simp; (try with_reducible rfl))
                        (try simp only [Act.put, List.setIfInBounds_toArray, List.set_cons_zero, List.set_cons_succ])
                        refine wpAnyH_ready (rs := [21]) (by kernel_rfl) (by simp) ?_
                        refine AllReadyH.cons (by simp only [List.getElem?_toArray, List.getElem?_cons_succ, List.getElem?_cons_zero]; rfl) (fun K hK => ?_) ?_
                        · go_simp
                          refine hK.out _ _ ?_ (fun hHeld => ?_)
                          · (first | assumption | exact ⟨b0, b1, b2, b3, hpc2, Fr.drew _ _ _⟩ | exact keepF (by assumption) (by assumption) hpGh | exact keepF (by assumption) (Fr.alloc _ _ _ _) hpGh | exact keepF (by assumption) (Fr.setCell _ _ _ hGB) hpGh)
                          clear hK K
                          (try simp only [Act.put, List.setIfInBounds_toArray, List.set_cons_zero, List.set_cons_succ])
                          refine wpAnyH_done (by kernel_rfl) ?_ _
                          have hfr : Fr G B W1 _ := lastF (by assumption)
                          have hob := Hgr.out
                          rw [← E2.out, show w'.heap.size = (w'.setCell ⟨G, a, none⟩ (.slice (some ⟨g', 0, none⟩) (ys.length + 1) c')).heap.size from by rw [setCell_size]] at hob
                          have hpib := hfr.ints Hpib.out Hpl2.out
                          have hdb := hfr.below hGw Hdb.out
                          have hzG : G < (w'.setCell ⟨G, a, none⟩ (.slice (some ⟨g', 0, none⟩) (ys.length + 1) c')).heap.size := Nat.lt_of_lt_of_le (by omega) hfr.size
                          have Hdb := Lib.hid hdb
                          have Hpib := Lib.hid hpib
                          have Hob := Lib.hid hob
                          have HzG := Lib.hid hzG
                          clear hdb hpib hob hzG
                          go_wp2
                          go_roundw
                          case rel => exact ⟨k + 1, _, by omega, by go_num, Hbn3.out, HS2.out, Hob.out, Hpib.out, Hdb.out, HzG.out⟩
                          case measure => simp [intOf]; omega
                        exact AllReadyH.nil
                      exact AllReadyH.nil
                    exact AllReadyH.nil
                  exact AllReadyH.nil
                exact AllReadyH.nil
              exact AllReadyH.nil
            exact AllReadyH.nil
          exact AllReadyH.nil
        exact AllReadyH.nil
      exact AllReadyH.nil
    · obtain rfl : k = m := by omega
      have HS1 : Hid (xss = R) := Lib.hid (by have := HS.out; rwa [drop_end (l := rs) (by rw [Hm.out]; exact Nat.le_refl _), addFold] at this)
      go_wp2
      go_ret
      rw [← HS1.out]
      exact ⟨some ⟨G, 0, none⟩, n, by rw [Hbn.out.len]; rfl, Ho.out.wide hGw (Nat.le_refl _), Hd.out⟩

end Go.Proofs.Ytehlijpjcjegcaa
