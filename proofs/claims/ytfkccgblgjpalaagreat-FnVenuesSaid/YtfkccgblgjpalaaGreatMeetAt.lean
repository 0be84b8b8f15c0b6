
/- Contracts: where two patterns can meet (program and reference). -/
import Derived.Test.YtfkccgblgjpalaaGreatEven
namespace Go.Proofs.YtfkccgblgjpalaaGreat
open Go.RowKit

def meetFrom (p q : ByteArray) : Nat → Nat → List Int
  | 0, _ => []
  | f + 1, a => if p.data.toList[a]? = q.data.toList[a]? then meetFrom p q f (a + 1) else (a : Int) :: meetFrom p q f (a + 1)
theorem meetFrom_len (p q : ByteArray) : ∀ (f a : Nat), (meetFrom p q f a).length ≤ f
  | 0, _ => by simp [meetFrom]
  | f + 1, a => by
    rw [meetFrom]
    have := meetFrom_len p q f (a + 1)
    split
    · omega
    · rw [List.length_cons]; omega
def okMeet (ss : List ByteArray) (i k : Int) : Bool := patsOk ss && (inR i 0 ((ss.length : Int) - 1) && inR k 0 ((ss.length : Int) - 1))
def meetF (ss : List ByteArray) (i k : Int) : List Int := if okMeet ss i k = true then meetFrom (ss.getD i.toNat ByteArray.empty) (ss.getD k.toNat ByteArray.empty) (ss.headD ByteArray.empty).size 0 else []
theorem byte_ne (p q : ByteArray) (a : Nat) (h : a < p.size) (h2 : a < q.size) : (p.data.toList[a]? = q.data.toList[a]?) ↔ p[a].toNat = q[a].toNat := by
  rw [bytes_at p a h, bytes_at q a h2]
  constructor
  · intro e; injection e with e; rw [e]
  · intro e; rw [UInt8.toNat_inj.1 e]

theorem out_empty0 (TT lo : Nat) (w : World) (hlo : lo ≤ w.heap.size) : Own TT lo (w.alloc (.cells #[] TT)).heap.size (w.alloc (.cells #[] TT)) (some ⟨w.heap.size, 0, none⟩) 0 [] :=
  ⟨by simp, by unfold maxLen; omega, .inr ⟨w.heap.size, #[], rfl, hlo, by simp, heap_alloc_new w _, rfl, rfl⟩⟩
set_option maxRecDepth 100000 in
set_option maxHeartbeats 2000000 in
theorem ICanMeetAt_c (A : Option Addr) (c : Nat) (ss : List ByteArray) (i k : Int) (w : World) (ha : Strs w A ss) (hm : ss.length ≤ 1048576) :
    Calls Tryz.prog 29 #[.slice A ss.length c, .int .i64 i, .int .i64 k] w (GivesI 3 w (meetF ss i k)) := by
  generalize hR : meetF ss i k = R
  have HR := Lib.hid hR
  clear hR
  have wn : IntKind.i64.wrap ((ss.length : Int) - 1) = (ss.length : Int) - 1 := IntWalk.i64_in _ (by omega)
  have Ha := Lib.hid ha
  clear ha
  cases h1 : patsOk ss
  · have HS : Hid ([] = R) := Lib.hid (by rw [← HR.out]; simp [meetF, okMeet, h1])
    have H1 := Lib.hid h1
    clear h1
    go_enter Tryz.func29, Tryz.ntmps29
    go_wp2_with fail
    refine (gives_v (iPatternsOk_c _ _ _ _ Ha.out hm) (congrArg Value.bool H1.out)).mono ?_
    rintro e w1 ⟨rfl, hb1⟩
    go_wp2
    go_ret
    rw [← HS.out]
    exact ⟨none, 0, rfl, Own.nil .., hb1⟩
  · cases h2 : inR i 0 ((ss.length : Int) - 1)
    · have HS : Hid ([] = R) := Lib.hid (by rw [← HR.out]; simp [meetF, okMeet, h2])
      have H1 := Lib.hid h1
      have H2 := Lib.hid h2
      clear h1 h2
      go_enter Tryz.func29, Tryz.ntmps29
      go_wp2_with fail
      refine (gives_v (iPatternsOk_c _ _ _ _ Ha.out hm) (congrArg Value.bool H1.out)).mono ?_
      rintro e w1 ⟨rfl, hb1⟩
      have Hb1 := Lib.hid hb1
      clear hb1
      go_wp2_with fail
      refine (calls_v (within_c _ _ _ _) (congrArg Value.bool H2.out)).mono ?_
      rintro e w2 ⟨rfl, hq2⟩
      go_wp2
      go_ret
      rw [← HS.out]
      exact ⟨none, 0, rfl, Own.nil .., below_dr Hb1.out hq2⟩
    · cases h3 : inR k 0 ((ss.length : Int) - 1)
      · have HS : Hid ([] = R) := Lib.hid (by rw [← HR.out]; simp [meetF, okMeet, h3])
        have H1 := Lib.hid h1
        have H2 := Lib.hid h2
        have H3 := Lib.hid h3
        clear h1 h2 h3
        go_enter Tryz.func29, Tryz.ntmps29
        go_wp2_with fail
        refine (gives_v (iPatternsOk_c _ _ _ _ Ha.out hm) (congrArg Value.bool H1.out)).mono ?_
        rintro e w1 ⟨rfl, hb1⟩
        have Hb1 := Lib.hid hb1
        clear hb1
        go_wp2_with fail
        refine (calls_v (within_c _ _ _ _) (congrArg Value.bool H2.out)).mono ?_
        rintro e w2 ⟨rfl, hq2⟩
        have Hb2 := Lib.hid (below_dr Hb1.out hq2)
        clear hq2
        go_wp2_with fail
        refine (calls_v (within_c _ _ _ _) (congrArg Value.bool H3.out)).mono ?_
        rintro e w3 ⟨rfl, hq3⟩
        go_wp2
        go_ret
        rw [← HS.out]
        exact ⟨none, 0, rfl, Own.nil .., below_dr Hb2.out hq3⟩
      · obtain ⟨n2, n10, nev, p0, hp0, hh, h36, hsz⟩ := patsOk_true h1
        obtain ⟨i1, i2⟩ := inR_true h2
        obtain ⟨k1, k2⟩ := inR_true h3
        obtain ⟨i, rfl⟩ := Int.eq_ofNat_of_zero_le i1
        obtain ⟨k, rfl⟩ := Int.eq_ofNat_of_zero_le k1
        obtain ⟨p, hp⟩ := some_of (l := ss) (k := i) (by omega)
        obtain ⟨q, hq⟩ := some_of (l := ss) (k := k) (by omega)
        have hps := hsz p (List.mem_of_getElem? hp)
        have hqs := hsz q (List.mem_of_getElem? hq)
        have HS : Hid (meetFrom p q p0.size 0 = R) := Lib.hid (by rw [← HR.out, meetF, if_pos (by simp [okMeet, h1, h2, h3]), hh]; simp [hp, hq])
        have hii : (i : Int) < (ss.length : Int) := by omega
        have hki : (k : Int) < (ss.length : Int) := by omega
        have hn0 : (0 : Int) < (ss.length : Int) := by omega
        have hpsz : p0.size ≤ p.size := by omega
        have hqsz : p0.size ≤ q.size := by omega
        have hpsz2 : p.size ≤ p0.size := by omega
        have H1 := Lib.hid h1
        have H2 := Lib.hid h2
        have H3 := Lib.hid h3
        have Hh := Lib.hid hh
        have Hp := Lib.hid hp
        have Hq := Lib.hid hq
        have Hps := Lib.hid hps
        have Hqs := Lib.hid hqs
        have Hsz := Lib.hid hsz
        have Hp0 := Lib.hid hp0
        have Nev := Lib.hid nev
        clear h1 h2 h3 hh hp hq hps hqs hsz hp0 nev
        go_enter Tryz.func29, Tryz.ntmps29
        go_wp2_with fail
        refine (gives_v (iPatternsOk_c _ _ _ _ Ha.out hm) (congrArg Value.bool H1.out)).mono ?_
        rintro e w1 ⟨rfl, hb1⟩
        have Hb1 := Lib.hid hb1
        clear hb1
        go_wp2_with fail
        refine (calls_v (within_c _ _ _ _) (congrArg Value.bool H2.out)).mono ?_
        rintro e w2 ⟨rfl, hq2⟩
        have Hb2 := Lib.hid (below_dr Hb1.out hq2)
        clear hq2
        go_wp2_with fail
        refine (calls_v (within_c _ _ _ _) (congrArg Value.bool H3.out)).mono ?_
        rintro e w3 ⟨rfl, hq3⟩
        have Hb3 := Lib.hid (below_dr Hb2.out hq3)
        clear hq3
        obtain ⟨ad, rfl, hci⟩ := Ha.out.keep (keep_of_below Hb3.out) i p Hp.out
        go_wp2
        go_loopw [33, 7] (fun ix o wr => ∃ (a f : Nat) (out : List Int) (C : Option Addr) (cc : Nat), a + f = p0.size ∧ ix = .int .i64 a ∧ o = .slice C out.length cc ∧ out ++ meetFrom p q f a = R ∧ out.length ≤ a ∧ Own 3 w.heap.size wr.heap.size wr C cc (out.map (.int .i64)) ∧ Below w.heap.size w wr) (fun ix _ _ => p0.size - (intOf ix).toNat)
        case atStart =>
          first
            | exact ⟨0, p0.size, [], none, 0, by omega, rfl, rfl, HS.out, Nat.zero_le _, Own.nil .., Hb3.out⟩
            | exact ⟨0, p0.size, [], some ⟨w3.heap.size, 0, none⟩, 0, by omega, rfl, rfl, HS.out, Nat.zero_le _, out_empty0 _ _ _ Hb3.out.size, Hb3.out.alloc Hb3.out.size _⟩
        case round =>
          clear hci
          obtain ⟨a, f, out, C, cc, haf, rfl, rfl, hS, hol, ho, hd⟩ := hrel
          have hsw := Ha.out.keep (keep_of_below hd)
          obtain ⟨ad0, e0, hc0⟩ := strs_zero hsw Hp0.out
          obtain rfl : ad = ad0 := by injection e0
          have HS := Lib.hid hS
          have Ho := Lib.hid ho
          have Hd := Lib.hid hd
          clear hS ho hd
          by_cases hlt : a < p0.size
          · obtain ⟨f, rfl⟩ : ∃ f', f = f' + 1 := ⟨f - 1, by omega⟩
            obtain ⟨ad1, e1, hci⟩ := hsw i p Hp.out
            obtain rfl : ad = ad1 := by injection e1
            obtain ⟨ad2, e2, hck⟩ := hsw k q Hq.out
            obtain rfl : ad = ad2 := by injection e2
            have hap : a < p.size := by omega
            have haq : a < q.size := by omega
            have hapi : (a : Int) < (p.size : Int) := by omega
            have haqi : (a : Int) < (q.size : Int) := by omega
            have HS1 : Hid (out ++ (if p[a].toNat = q[a].toNat then meetFrom p q f (a + 1) else (a : Int) :: meetFrom p q f (a + 1)) = R) := Lib.hid (by
              have := HS.out
              rw [meetFrom] at this
              by_cases hb : p[a].toNat = q[a].toNat
              · rw [if_pos hb]; rwa [if_pos ((byte_ne p q a hap haq).2 hb)] at this
              · rw [if_neg hb]; rwa [if_neg (fun h => hb ((byte_ne p q a hap haq).1 h))] at this)
            clear e0 e1 e2 hsw
            by_cases hb : p[a].toNat = q[a].toNat
            · have hb1 : ((p[a].toNat : Int) != (q[a].toNat : Int)) = false := by rw [bne_eq_false_iff_eq]; omega
              have hb2 : (p[a].toNat != q[a].toNat) = false := by rw [bne_eq_false_iff_eq]; exact hb
              have HS2 : Hid (out ++ meetFrom p q f (a + 1) = R) := Lib.hid (by have := HS1.out; rwa [if_pos hb] at this)
              have Hb := Lib.hid hb
              clear hb
              go_wp2
              go_quiet (fail)
              go_wp2
              go_roundw
              case rel => exact ⟨a + 1, f, out, C, cc, by omega, by go_num, rfl, HS2.out, by omega, Ho.out.below (below_drewN _ _ _), Hd.out.trans (below_drewN _ _ _)⟩
              case measure => simp [intOf]; omega
            · have hb1 : ((p[a].toNat : Int) != (q[a].toNat : Int)) = true := by rw [bne_iff_ne]; omega
              have hb2 : (p[a].toNat != q[a].toNat) = true := by rw [bne_iff_ne]; exact hb
              have HS2 : Hid ((out ++ [(a : Int)]) ++ meetFrom p q f (a + 1) = R) := Lib.hid (by have := HS1.out; rw [if_neg hb] at this; simpa using this)
              have Hlm : Hid (out.length = (out.map (Value.int .i64)).length) := Lib.hid (by simp)
              have Hb := Lib.hid hb
              clear hb
              go_wp2
              go_quiet (fail)
              obtain ⟨wx, hwx⟩ : ∃ wx, wr.drewN nq = wx := ⟨_, rfl⟩
              have hbx : Below wr.heap.size wr wx := by rw [← hwx]; exact below_drewN _ _ _
              have Ho2 := Lib.hid ((Ho.out.below hbx).wide (Nat.le_refl _) hbx.size)
              have Hd2 := Lib.hid (Hd.out.trans (hbx.mono Hd.out.size))
              rw [hwx]
              clear hwx hc0 hci hck hbx
              go_wp2_with (at_builtin; refine wpList_app1 rfl (.tmp 49) (.tmp 51) 36 rfl 3 (.int .i64 0) 8 Tryz.underlying36 info_int rfl w.heap.size C cc (out.map (.int .i64)) ?_ ?_ (.int .i64 (a : Int)) rfl ?_ ?_ out.length ?_ ?_ ?_ ?_; exact Ho2.out; exact Hd2.out.size; (rw [← Hlm.out]; omega); decide; exact Hlm.out; rfl; rfl; intro A' c' w' ho' hb' _ _)
              have hd5 := Hd2.out.trans hb'
              have Ho' := Lib.hid ho'
              have Hd5 := Lib.hid hd5
              clear ho' hd5
              clear hb'
              go_wp2
              go_roundw
              case rel => exact ⟨a + 1, f, out ++ [(a : Int)], A', c', by omega, by go_num, by simp, HS2.out, by simp; omega, by simpa using Ho'.out, Hd5.out⟩
              case measure => simp [intOf]; omega
          · obtain rfl : f = 0 := by omega
            have HS1 : Hid (out = R) := Lib.hid (by have := HS.out; rwa [meetFrom, List.append_nil] at this)
            go_wp2
            go_ret
            rw [← HS1.out]
            exact ⟨C, cc, rfl, Ho.out, Hd.out⟩

end Go.Proofs.YtfkccgblgjpalaaGreat
