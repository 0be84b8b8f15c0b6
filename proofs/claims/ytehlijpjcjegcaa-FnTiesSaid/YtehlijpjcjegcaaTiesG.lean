/- Contracts for the law on ties: PointsOf (program); posts with the lengths said. -/
import Derived.Test.YtehlijpjcjegcaaTiesF
import Derived.Test.YtehlijpjcjegcaaHeadT
import Derived.Test.YtehlijpjcjegcaaSumI
import Derived.Test.YtehlijpjcjegcaaProI
import Derived.Test.YtehlijpjcjegcaaMedI
import Derived.Test.YtehlijpjcjegcaaCode
import Derived.Test.YtehlijpjcjegcaaPast
namespace Go.Proofs.Ytehlijpjcjegcaa
set_option linter.unusedVariables false
set_option linter.unusedSimpArgs false
open Go.RowKit

set_option maxHeartbeats 1000000 in
theorem iPointsOf_c (n : Nat) (A : Option Addr) (c : Nat) (rs : List Res) (w : World) (ha : Games w A rs) (hok : leagueOk n rs = true) :
    Calls Try.prog 33 #[lgv n A rs.length c] w (GivesI 3 w (pointsF n rs)) := by
  have hm60 := (league_of hok).few
  have hlc := fun W (h : Games W A rs) => iLeagueOk_c n A c rs W h (by omega)
  rw [hok] at hlc
  have hpc := fun W (h : Games W A rs) => points_c n A c rs W h hok
  obtain ⟨b0, b1⟩ := box2 w (.int .i64 (n : Int)) (.slice A rs.length c) 29
  have hbw : Below w.heap.size w (w.alloc (.cells #[.int .i64 (n : Int), .slice A rs.length c] 29)) := (Below.refl _ _).alloc (Nat.le_refl _) _
  have hg0 := ha.keep (keep_of_below hbw)
  unfold lgv at hlc hpc ⊢
  obtain ⟨m, hmm⟩ : ∃ m, rs.length = m := ⟨_, rfl⟩
  rw [hmm] at hlc hpc hbw hg0 b0 b1 hm60 ⊢
  have Ha := Lib.hid ha
  have Hlc := Lib.hid hlc
  have Hbw := Lib.hid hbw
  have Hg0 := Lib.hid hg0
  have Hmm := Lib.hid hmm
  have Hpc := Lib.hid hpc
  clear ha hlc hbw hg0 hmm hpc
  clear hok
  go_enter Try.func33, Try.ntmps33
  go_wp2_with fail
  refine (Hlc.out _ Hg0.out).mono ?_
  rintro e w1 ⟨rfl, hb⟩
  have c0 := keep_of_below hb _ _ b0
  have c1 := keep_of_below hb _ _ b1
  have Hb := Lib.hid (Hbw.out.trans (hb.mono Hbw.out.size))
  have Hg1 := Lib.hid (Ha.out.keep (keep_of_below Hb.out))
  clear hb b0 b1
  go_wp2_with fail
  refine (Hpc.out _ Hg1.out).mono ?_
  rintro e w2 ⟨B, d, rfl, ho, hb2⟩
  have hb3 := Hb.out.trans (hb2.mono Hb.out.size)
  have ho3 := ho.wide (lo' := w.heap.size) Hb.out.size (Nat.le_refl _)
  have Ho3 := Lib.hid ho3
  have Hb3 := Lib.hid hb3
  clear ho3 hb3
  clear ho hb2
  go_wp2
  go_ret
  exact ⟨B, d, rfl, Ho3.out, Hb3.out⟩

/-- A row of ints comes back, so long. -/
def GivesL (w : World) (xs : List Int) (n : Nat) (e : Ending) (w' : World) : Prop := ∃ A c, e = .returned (.slice A n c) ∧ Ints w' A xs ∧ Below w.heap.size w w'
theorem GivesI_l {w : World} {xs ys : List Int} {n : Nat} {P : Program} {f : FuncId} {args : Array Value} (h : xs.length = n) (e : ys = xs) (k : Calls P f args w (GivesI 3 w ys)) : Calls P f args w (GivesL w xs n) := by
  subst e
  exact k.mono fun e w' ⟨A, c, he, ho, hb⟩ => ⟨A, c, by rw [← h]; exact he, ho.ints, hb⟩
theorem ints_some {w : World} {A : Option Addr} {l : List Int} (h : Ints w A l) (hl : 0 < l.length) : ∃ ad, A = some ad := by
  obtain ⟨ad, e, _⟩ := h 0 _ (List.getElem?_eq_getElem hl)
  exact ⟨ad, e⟩
theorem ints_at {w : World} {ad : Addr} {l : List Int} {k : Nat} {v : Int} (h : Ints w (some ad) l) (hk : l[k]? = some v) : w.cell? (ad.add k) = some (.int .i64 v) := by
  obtain ⟨ad', e, hc⟩ := h k v hk
  injection e with e
  subst e
  exact hc
theorem small_pow {a n Q : Nat} (ha : a < n) (hn : n ≤ 6) (h : 2 ^ a = Q) : Q ≤ 32 ∧ wrap64 ((2 : Int) ^ a) = (Q : Int) ∧ IntKind.i64.wrap ((2 : Int) ^ a) = (Q : Int) := by
  have h1 : Q ≤ 2 ^ 5 := by rw [← h]; exact Nat.pow_le_pow_right (by decide) (by omega)
  have h2 : Q ≤ 32 := h1
  refine ⟨h2, pow_wrap h (by omega), ?_⟩
  have e : ((2 : Int) ^ a) = ((2 ^ a : Nat) : Int) := by rw [Int.natCast_pow]; rfl
  rw [e, h]
  exact IntWalk.i64_in _ (by omega)
theorem small_add {S Q : Nat} (h : S < 64) (hQ : Q ≤ 32) : IntKind.i64.wrap ((S : Int) + (Q : Int)) = ((S + Q : Nat) : Int) := by
  rw [IntWalk.i64_in _ (by omega)]; omega
theorem small_bit {S a u : Nat} (hS : S < 64) (hu : S / 2 ^ a = u) : u < 64 ∧ (S : Int) / 2 ^ a = (u : Int) ∧ bits .and .i64 (u : Int) 1 = ((u % 2 : Nat) : Int) := by
  have h : u < 64 := by rw [← hu]; exact Nat.lt_of_le_of_lt (Nat.div_le_self _ _) hS
  exact ⟨h, by rw [← hu]; exact shr_nat S a, and_one u (by omega)⟩
theorem odd_no {u : Nat} (h : u % 2 = 0) : ((u : Int) % 2 == 1) = false := by simp; omega
theorem odd_yes {u : Nat} (h : u % 2 = 1) : ((u : Int) % 2 == 1) = true := by simp; omega
theorem not_lt_int {a n : Nat} (h : a < n) : ¬ (a : Int) < 0 ∧ decide ((a : Int) < 0) = false ∧ decide ((n : Int) ≤ (a : Int)) = false ∧ decide (n ≤ a) = false ∧ (a : Int) < (n : Int) := by
  refine ⟨by omega, by simp, by simp; omega, by simp; omega, by omega⟩
theorem take_six {F : List Nat} {n : Nat} (h : F.length = n) (hn : n ≤ 6) (i : Nat) : ((F.take i).length : Int) ≤ 6 := by rw [List.length_take]; omega
theorem mul_bd {p s : Int} (p0 : 0 ≤ p) (p1 : p ≤ 180) (s0 : 0 ≤ s) (s1 : s ≤ 11) : 0 ≤ p * s ∧ p * s ≤ 1980 := ⟨Int.mul_nonneg p0 s0, Int.mul_le_mul p1 s1 s0 (by decide)⟩
theorem at_getD {l : List Int} {k : Nat} (h : k < l.length) : l[k]? = some (l.getD k 0) := by rw [List.getD_eq_getElem?_getD, List.getElem?_eq_getElem h]; rfl

/-! ### Regions of the law on ties that draw their order, each over any frame (printed by gen/tiesreg.py I) -/
/-- The region with this number. -/
def regionAt (k : Nat) : Code → Option Code
  | .region i l d => if i = k then some (.region i l d) else none
  | .seq a b => match regionAt k a with
    | some c => some c
    | none => regionAt k b
  | .block _ c => regionAt k c
  | .loop c => regionAt k c
  | .scope c => regionAt k c
  | .cond _ a b => match regionAt k a with
    | some c => some c
    | none => regionAt k b
  | _ => none
noncomputable def tieRegion (k : Nat) : Code := ((Try.f10.body.bind (regionAt k)).getD .skip)
def opsOf : Code → Array Oper
  | .region _ l _ => l
  | _ => #[]
set_option maxRecDepth 1000000 in
set_option maxHeartbeats 4000000 in
theorem r21 {c0 c1 c2 c3 c4 c7 c8 c9 c10 c11 c12 c15 c16 c17 c18 c19 c20 c21 c22 c23 c24 c25 c26 c27 c28 c29 c30 c31 c32 c33 c34 c35 c36 c37 c38 c39 c40 c41 c42 c43 c44 c45 c46 c47 c48 c49 c50 c51 c52 c53 c54 c55 c56 c57 c58 c59 c60 c61 c62 c63 c64 c65 c66 c67 c68 c69 c70 c71 c72 c73 c74 c75 c76 c77 c78 c79 c80 c81 c82 c83 c84 c85 c86 c87 c88 c89 c90 c91 c92 c93 c94 c95 c96 c97 c98 c99 c100 c101 c102 c103 c104 c105 c106 c107 c108 c109 c110 c111 c112 c113 c114 c115 c116 c117 c118 c119 c120 c121 c122 c123 c124 c125 c126 c127 c128 c129 c130 c131 c132 c133 c134 c135 c136 c137 c138 c139 c140 c141 c142 c143 c144 c145 c146 c147 c148 c149 c150 c151 c152 c153 c154 c155 c156 c157 c158 c159 c160 c161 c162 c163 c164 c165 c166 c167 c168 c169 c170 c171 c172 c173 c174 c175 c176 c177 c178 c179 c180 c181 c182 c183 c184 c185 c186 c187 c188 c189 c190 c191 c192 c193 c194 c195 c196 c197 c198 c199 c200 c201 c202 c203 c204 c205 c206 c207 c208 c209 c210 c211 c212 c213 c214 c215 c216 c217 c218 c219 c220 c221 c222 c223 c224 c225 c226 c227 c228 c229 c230 c231 c232 c233 c234 c235 c236 c237 c238 c239 c240 c241 c242 c243 c244 c245 c246 c247 c248 c249 c250 c251 c252 c253 c254 c255 c256 c257 c258 c259 c260 c261 c262 c263 c264 c265 c266 c267 c268 c269 c270 c271 c272 c273 c274 c275 c276 c277 c278 c279 c280 c281 c282 c283 c284 c285 c286 c287 c288 c289 c290 c291 c292 c293 c294 c295 c296 c297 c298 c299 c300 c301 c302 c303 c304 c305 c306 c307 c308 c309 c310 c311 c312 c313 c314 c315 c316 c317 c318 c319 c320 c321 c322 c323 c324 c325 c326 c327 c328 c329 c330 c331 c332 c333 c334 c335 c336 c337 c338 c339 c340 c341 c342 c343 c344 c345 c346 c347 c348 c349 c350 c351 c352 c353 c354 c355 c356 c357 c358 c359 c360 c361 c362 c363 c364 c365 c366 c367 c368 c369 c370 c371 c372 : Value} {w : World} {Q : Exit → Act → World → Prop} {pd fd : Addr} {n pc fc i a : Nat} {pa : Int} (hani : (a : Int) < (n : Int)) (hi : i < n) (hn : n ≤ 6) (cp : w.cell? (pd.add a) = some (.int .i64 pa))
    (hc : i = 0 ∨ ∃ (j b : Nat) (pb : Int), j + 1 = i ∧ b < n ∧ pa ≤ pb ∧ w.cell? (fd.add j) = some (.int .i64 (b : Int)) ∧ w.cell? (pd.add b) = some (.int .i64 pb))
    (h : ∀ (u107 u108 u109 u110 u111 u112 u113 u114 u115 u116 u117 u118 u119 u120 u121 u122 : Value) (wx : World), Below w.heap.size w wx → Q .normal ⟨#[c0, c1, c2, c3, c4, .slice (some pd) n pc, .slice (some fd) n fc, c7, c8, c9, c10, c11, c12, .int .i64 (i : Int), .int .i64 (a : Int), c15, c16, c17, c18, c19, c20, c21, c22, c23, c24, c25, c26, c27, c28, c29, c30, c31, c32, c33, c34, c35, c36, c37, c38, c39, c40, c41, c42, c43, c44, c45, c46, c47, c48, c49, c50, c51, c52, c53, c54, c55, c56, c57, c58, c59, c60, c61, c62, c63, c64, c65, c66, c67, c68, c69, c70, c71, c72, c73, c74, c75, c76, c77, c78, c79, c80, c81, c82, c83, c84, c85, c86, c87, c88, c89, c90, c91, c92, c93, c94, c95, c96, c97, c98, c99, c100, c101, c102, c103, c104, c105, c106, u107, u108, u109, u110, u111, u112, u113, u114, u115, u116, u117, u118, u119, u120, u121, u122, .bool false, c124, c125, c126, c127, c128, c129, c130, c131, c132, c133, c134, c135, c136, c137, c138, c139, c140, c141, c142, c143, c144, c145, c146, c147, c148, c149, c150, c151, c152, c153, c154, c155, c156, c157, c158, c159, c160, c161, c162, c163, c164, c165, c166, c167, c168, c169, c170, c171, c172, c173, c174, c175, c176, c177, c178, c179, c180, c181, c182, c183, c184, c185, c186, c187, c188, c189, c190, c191, c192, c193, c194, c195, c196, c197, c198, c199, c200, c201, c202, c203, c204, c205, c206, c207, c208, c209, c210, c211, c212, c213, c214, c215, c216, c217, c218, c219, c220, c221, c222, c223, c224, c225, c226, c227, c228, c229, c230, c231, c232, c233, c234, c235, c236, c237, c238, c239, c240, c241, c242, c243, c244, c245, c246, c247, c248, c249, c250, c251, c252, c253, c254, c255, c256, c257, c258, c259, c260, c261, c262, c263, c264, c265, c266, c267, c268, c269, c270, c271, c272, c273, c274, c275, c276, c277, c278, c279, c280, c281, c282, c283, c284, c285, c286, c287, c288, c289, c290, c291, c292, c293, c294, c295, c296, c297, c298, c299, c300, c301, c302, c303, c304, c305, c306, c307, c308, c309, c310, c311, c312, c313, c314, c315, c316, c317, c318, c319, c320, c321, c322, c323, c324, c325, c326, c327, c328, c329, c330, c331, c332, c333, c334, c335, c336, c337, c338, c339, c340, c341, c342, c343, c344, c345, c346, c347, c348, c349, c350, c351, c352, c353, c354, c355, c356, c357, c358, c359, c360, c361, c362, c363, c364, c365, c366, c367, c368, c369, c370, c371, c372], []⟩ wx) :
    Code.wp Try.prog (tieRegion 21) Q ⟨#[c0, c1, c2, c3, c4, .slice (some pd) n pc, .slice (some fd) n fc, c7, c8, c9, c10, c11, c12, .int .i64 (i : Int), .int .i64 (a : Int), c15, c16, c17, c18, c19, c20, c21, c22, c23, c24, c25, c26, c27, c28, c29, c30, c31, c32, c33, c34, c35, c36, c37, c38, c39, c40, c41, c42, c43, c44, c45, c46, c47, c48, c49, c50, c51, c52, c53, c54, c55, c56, c57, c58, c59, c60, c61, c62, c63, c64, c65, c66, c67, c68, c69, c70, c71, c72, c73, c74, c75, c76, c77, c78, c79, c80, c81, c82, c83, c84, c85, c86, c87, c88, c89, c90, c91, c92, c93, c94, c95, c96, c97, c98, c99, c100, c101, c102, c103, c104, c105, c106, c107, c108, c109, c110, c111, c112, c113, c114, c115, c116, c117, c118, c119, c120, c121, c122, c123, c124, c125, c126, c127, c128, c129, c130, c131, c132, c133, c134, c135, c136, c137, c138, c139, c140, c141, c142, c143, c144, c145, c146, c147, c148, c149, c150, c151, c152, c153, c154, c155, c156, c157, c158, c159, c160, c161, c162, c163, c164, c165, c166, c167, c168, c169, c170, c171, c172, c173, c174, c175, c176, c177, c178, c179, c180, c181, c182, c183, c184, c185, c186, c187, c188, c189, c190, c191, c192, c193, c194, c195, c196, c197, c198, c199, c200, c201, c202, c203, c204, c205, c206, c207, c208, c209, c210, c211, c212, c213, c214, c215, c216, c217, c218, c219, c220, c221, c222, c223, c224, c225, c226, c227, c228, c229, c230, c231, c232, c233, c234, c235, c236, c237, c238, c239, c240, c241, c242, c243, c244, c245, c246, c247, c248, c249, c250, c251, c252, c253, c254, c255, c256, c257, c258, c259, c260, c261, c262, c263, c264, c265, c266, c267, c268, c269, c270, c271, c272, c273, c274, c275, c276, c277, c278, c279, c280, c281, c282, c283, c284, c285, c286, c287, c288, c289, c290, c291, c292, c293, c294, c295, c296, c297, c298, c299, c300, c301, c302, c303, c304, c305, c306, c307, c308, c309, c310, c311, c312, c313, c314, c315, c316, c317, c318, c319, c320, c321, c322, c323, c324, c325, c326, c327, c328, c329, c330, c331, c332, c333, c334, c335, c336, c337, c338, c339, c340, c341, c342, c343, c344, c345, c346, c347, c348, c349, c350, c351, c352, c353, c354, c355, c356, c357, c358, c359, c360, c361, c362, c363, c364, c365, c366, c367, c368, c369, c370, c371, c372], []⟩ w := by
  have H := Lib.hid h
  clear h
  conv => arg 2; whnf
  dsimp only
  refine wp_region_past (by kernel_rfl) (by kernel_rfl) ?_
  rcases hc with hi0 | ⟨j, b, pb, hj, hbn, hle, cf, cb⟩
  · have hi0i : ¬ (0 : Int) < (i : Int) := by omega
    have hi0d : decide ((0 : Int) < (i : Int)) = false := by simp; omega
    have hi0e : decide (0 < i) = false := by simp; omega
    clear hi0
    repeat (go_big_quiet_step (fail))
    refine wpQuiet_nil ?_
    intro wx hwx
    obtain ⟨⟨wy, hbx⟩, hw⟩ := hwx
    change wx = wy at hw
    subst hw
    exact H.out _ _ _ _ _ _ _ _ _ _ _ _ _ _ _ _ _ hbx
  · have hi0i : (0 : Int) < (i : Int) := by omega
    have hi0d : decide ((0 : Int) < (i : Int)) = true := by simp; omega
    have hi0e : decide (0 < i) = true := by simp; omega
    have wj : IntKind.i64.wrap ((i : Int) - 1) = (j : Int) := by rw [IntWalk.i64_in _ (by omega)]; omega
    have hjn : (j : Int) < (n : Int) := by omega
    have q1 : ∀ y : Past w, y.now.cell? (pd.add a) = some (.int .i64 pa) := Past.cell cp
    have q2 : ∀ y : Past w, y.now.cell? (fd.add j) = some (.int .i64 (b : Int)) := Past.cell cf
    have q3 : ∀ y : Past w, y.now.cell? (pd.add b) = some (.int .i64 pb) := Past.cell cb
    have hle2 : ¬ pb < pa := by omega
    have hle3 : decide (pb < pa) = false := by simp; omega
    obtain ⟨b0, b1, b2, b3, hbni⟩ := not_lt_int hbn
    have Hj := Lib.hid hj
    clear hj cf cb cp hle
    repeat (go_big_quiet_step (fail))
    refine wpQuiet_nil ?_
    intro wx hwx
    obtain ⟨⟨wy, hbx⟩, hw⟩ := hwx
    change wx = wy at hw
    subst hw
    exact H.out _ _ _ _ _ _ _ _ _ _ _ _ _ _ _ _ _ hbx

set_option maxRecDepth 1000000 in
set_option maxHeartbeats 4000000 in
theorem r36 {c0 c1 c2 c3 c6 c7 c8 c9 c10 c11 c12 c13 c14 c15 c16 c17 c20 c21 c23 c24 c25 c26 c27 c28 c29 c30 c31 c32 c33 c34 c35 c36 c37 c38 c39 c40 c41 c42 c43 c44 c45 c46 c47 c48 c49 c50 c51 c52 c53 c54 c55 c56 c57 c58 c59 c60 c61 c62 c63 c64 c65 c66 c67 c68 c69 c70 c71 c72 c73 c74 c75 c76 c77 c78 c79 c80 c81 c82 c83 c84 c85 c86 c87 c88 c89 c90 c91 c92 c93 c94 c95 c96 c97 c98 c99 c100 c101 c102 c103 c104 c105 c106 c107 c108 c109 c110 c111 c112 c113 c114 c115 c116 c117 c118 c119 c120 c121 c122 c123 c124 c125 c126 c127 c128 c129 c130 c131 c132 c133 c134 c135 c136 c137 c138 c139 c140 c141 c142 c143 c144 c145 c146 c147 c148 c149 c150 c151 c152 c153 c154 c155 c156 c157 c158 c159 c160 c161 c162 c163 c164 c165 c166 c167 c168 c169 c170 c171 c172 c173 c174 c175 c176 c177 c178 c179 c180 c181 c182 c183 c184 c185 c186 c187 c188 c189 c190 c191 c192 c193 c194 c195 c196 c197 c198 c199 c200 c201 c202 c203 c204 c205 c206 c207 c208 c209 c210 c211 c212 c213 c214 c215 c216 c217 c218 c219 c220 c221 c222 c223 c224 c225 c226 c227 c228 c229 c230 c231 c232 c233 c234 c235 c236 c237 c238 c239 c240 c241 c242 c243 c244 c245 c246 c247 c248 c249 c250 c251 c252 c253 c254 c255 c256 c257 c258 c259 c260 c261 c262 c263 c264 c265 c266 c267 c268 c269 c270 c271 c272 c273 c274 c275 c276 c277 c278 c279 c280 c281 c282 c283 c284 c285 c286 c287 c288 c289 c290 c291 c292 c293 c294 c295 c296 c297 c298 c299 c300 c301 c302 c303 c304 c305 c306 c307 c308 c309 c310 c311 c312 c313 c314 c315 c316 c317 c318 c319 c320 c321 c322 c323 c324 c325 c326 c327 c328 c329 c330 c331 c332 c333 c334 c335 c336 c337 c338 c339 c340 c341 c342 c343 c344 c345 c346 c347 c348 c349 c350 c351 c352 c353 c354 c355 c356 c357 c358 c359 c360 c361 c362 c363 c364 c365 c366 c367 c368 c369 c370 c371 c372 : Value} {w : World} {Q : Exit → Act → World → Prop} {pd : Addr} {n pc a s b u : Nat} {pa : Int} (hani : (a : Int) < (n : Int)) (hbn : b < n) (hn : n ≤ 6) (f1 : (s : Int) / 2 ^ b = (u : Int)) (f2 : bits .and .i64 (u : Int) 1 = ((u % 2 : Nat) : Int)) (hbs : u % 2 = 1)
    (cb : w.cell? (pd.add b) = some (.int .i64 pa)) (ca : w.cell? (pd.add a) = some (.int .i64 pa))
    (h : ∀ (u262 u263 u264 u265 u266 u267 u268 u269 u270 u271 u272 u273 u274 u275 u276 u277 u278 u279 u280 u281 u282 u283 u284 u285 : Value) (wx : World), Below w.heap.size w wx → Q .normal ⟨#[c0, c1, c2, c3, .int .i64 (n : Int), .slice (some pd) n pc, c6, c7, c8, c9, c10, c11, c12, c13, c14, c15, c16, c17, .int .i64 (a : Int), .int .i64 (s : Int), c20, c21, .int .i64 (b : Int), c23, c24, c25, c26, c27, c28, c29, c30, c31, c32, c33, c34, c35, c36, c37, c38, c39, c40, c41, c42, c43, c44, c45, c46, c47, c48, c49, c50, c51, c52, c53, c54, c55, c56, c57, c58, c59, c60, c61, c62, c63, c64, c65, c66, c67, c68, c69, c70, c71, c72, c73, c74, c75, c76, c77, c78, c79, c80, c81, c82, c83, c84, c85, c86, c87, c88, c89, c90, c91, c92, c93, c94, c95, c96, c97, c98, c99, c100, c101, c102, c103, c104, c105, c106, c107, c108, c109, c110, c111, c112, c113, c114, c115, c116, c117, c118, c119, c120, c121, c122, c123, c124, c125, c126, c127, c128, c129, c130, c131, c132, c133, c134, c135, c136, c137, c138, c139, c140, c141, c142, c143, c144, c145, c146, c147, c148, c149, c150, c151, c152, c153, c154, c155, c156, c157, c158, c159, c160, c161, c162, c163, c164, c165, c166, c167, c168, c169, c170, c171, c172, c173, c174, c175, c176, c177, c178, c179, c180, c181, c182, c183, c184, c185, c186, c187, c188, c189, c190, c191, c192, c193, c194, c195, c196, c197, c198, c199, c200, c201, c202, c203, c204, c205, c206, c207, c208, c209, c210, c211, c212, c213, c214, c215, c216, c217, c218, c219, c220, c221, c222, c223, c224, c225, c226, c227, c228, c229, c230, c231, c232, c233, c234, c235, c236, c237, c238, c239, c240, c241, c242, c243, c244, c245, c246, c247, c248, c249, c250, c251, c252, c253, c254, c255, c256, c257, c258, c259, c260, c261, u262, u263, u264, u265, u266, u267, u268, u269, u270, u271, u272, u273, u274, u275, u276, u277, u278, u279, u280, u281, u282, u283, u284, u285, .bool false, c287, c288, c289, c290, c291, c292, c293, c294, c295, c296, c297, c298, c299, c300, c301, c302, c303, c304, c305, c306, c307, c308, c309, c310, c311, c312, c313, c314, c315, c316, c317, c318, c319, c320, c321, c322, c323, c324, c325, c326, c327, c328, c329, c330, c331, c332, c333, c334, c335, c336, c337, c338, c339, c340, c341, c342, c343, c344, c345, c346, c347, c348, c349, c350, c351, c352, c353, c354, c355, c356, c357, c358, c359, c360, c361, c362, c363, c364, c365, c366, c367, c368, c369, c370, c371, c372], []⟩ wx) :
    Code.wp Try.prog (tieRegion 36) Q ⟨#[c0, c1, c2, c3, .int .i64 (n : Int), .slice (some pd) n pc, c6, c7, c8, c9, c10, c11, c12, c13, c14, c15, c16, c17, .int .i64 (a : Int), .int .i64 (s : Int), c20, c21, .int .i64 (b : Int), c23, c24, c25, c26, c27, c28, c29, c30, c31, c32, c33, c34, c35, c36, c37, c38, c39, c40, c41, c42, c43, c44, c45, c46, c47, c48, c49, c50, c51, c52, c53, c54, c55, c56, c57, c58, c59, c60, c61, c62, c63, c64, c65, c66, c67, c68, c69, c70, c71, c72, c73, c74, c75, c76, c77, c78, c79, c80, c81, c82, c83, c84, c85, c86, c87, c88, c89, c90, c91, c92, c93, c94, c95, c96, c97, c98, c99, c100, c101, c102, c103, c104, c105, c106, c107, c108, c109, c110, c111, c112, c113, c114, c115, c116, c117, c118, c119, c120, c121, c122, c123, c124, c125, c126, c127, c128, c129, c130, c131, c132, c133, c134, c135, c136, c137, c138, c139, c140, c141, c142, c143, c144, c145, c146, c147, c148, c149, c150, c151, c152, c153, c154, c155, c156, c157, c158, c159, c160, c161, c162, c163, c164, c165, c166, c167, c168, c169, c170, c171, c172, c173, c174, c175, c176, c177, c178, c179, c180, c181, c182, c183, c184, c185, c186, c187, c188, c189, c190, c191, c192, c193, c194, c195, c196, c197, c198, c199, c200, c201, c202, c203, c204, c205, c206, c207, c208, c209, c210, c211, c212, c213, c214, c215, c216, c217, c218, c219, c220, c221, c222, c223, c224, c225, c226, c227, c228, c229, c230, c231, c232, c233, c234, c235, c236, c237, c238, c239, c240, c241, c242, c243, c244, c245, c246, c247, c248, c249, c250, c251, c252, c253, c254, c255, c256, c257, c258, c259, c260, c261, c262, c263, c264, c265, c266, c267, c268, c269, c270, c271, c272, c273, c274, c275, c276, c277, c278, c279, c280, c281, c282, c283, c284, c285, c286, c287, c288, c289, c290, c291, c292, c293, c294, c295, c296, c297, c298, c299, c300, c301, c302, c303, c304, c305, c306, c307, c308, c309, c310, c311, c312, c313, c314, c315, c316, c317, c318, c319, c320, c321, c322, c323, c324, c325, c326, c327, c328, c329, c330, c331, c332, c333, c334, c335, c336, c337, c338, c339, c340, c341, c342, c343, c344, c345, c346, c347, c348, c349, c350, c351, c352, c353, c354, c355, c356, c357, c358, c359, c360, c361, c362, c363, c364, c365, c366, c367, c368, c369, c370, c371, c372], []⟩ w := by
  have H := Lib.hid h
  clear h
  conv => arg 2; whnf
  dsimp only
  obtain ⟨b0, b1, b2, b3, hbni⟩ := not_lt_int hbn
  have f3 : ((u : Int) % 2 != 1) = false := by simp; omega
  have q1 : ∀ y : Past w, y.now.cell? (pd.add b) = some (.int .i64 pa) := Past.cell cb
  have q2 : ∀ y : Past w, y.now.cell? (pd.add a) = some (.int .i64 pa) := Past.cell ca
  clear cb ca
  refine wp_region_past (by kernel_rfl) (by kernel_rfl) ?_
  · repeat (go_big_quiet_step (fail))
    refine wpQuiet_nil ?_
    intro wx hwx
    obtain ⟨⟨wy, hbx⟩, hw⟩ := hwx
    change wx = wy at hw
    subst hw
    exact H.out _ _ _ _ _ _ _ _ _ _ _ _ _ _ _ _ _ _ _ _ _ _ _ _ _ hbx

set_option maxRecDepth 1000000 in
set_option maxHeartbeats 4000000 in
theorem r45 {c0 c1 c2 c3 c4 c5 c7 c8 c9 c10 c11 c12 c13 c14 c15 c16 c17 c18 c19 c22 c24 c25 c26 c27 c28 c29 c30 c31 c32 c33 c34 c35 c36 c37 c38 c39 c40 c41 c42 c43 c44 c45 c46 c47 c48 c49 c50 c51 c52 c53 c54 c55 c56 c57 c58 c59 c60 c61 c62 c63 c64 c65 c66 c67 c68 c69 c70 c71 c72 c73 c74 c75 c76 c77 c78 c79 c80 c81 c82 c83 c84 c85 c86 c87 c88 c89 c90 c91 c92 c93 c94 c95 c96 c97 c98 c99 c100 c101 c102 c103 c104 c105 c106 c107 c108 c109 c110 c111 c112 c113 c114 c115 c116 c117 c118 c119 c120 c121 c122 c123 c124 c125 c126 c127 c128 c129 c130 c131 c132 c133 c134 c135 c136 c137 c138 c139 c140 c141 c142 c143 c144 c145 c146 c147 c148 c149 c150 c151 c152 c153 c154 c155 c156 c157 c158 c159 c160 c161 c162 c163 c164 c165 c166 c167 c168 c169 c170 c171 c172 c173 c174 c175 c176 c177 c178 c179 c180 c181 c182 c183 c184 c185 c186 c187 c188 c189 c190 c191 c192 c193 c194 c195 c196 c197 c198 c199 c200 c201 c202 c203 c204 c205 c206 c207 c208 c209 c210 c211 c212 c213 c214 c215 c216 c217 c218 c219 c220 c221 c222 c223 c224 c225 c226 c227 c228 c229 c230 c231 c232 c233 c234 c235 c236 c237 c238 c239 c240 c241 c242 c243 c244 c245 c246 c247 c248 c249 c250 c251 c252 c253 c254 c255 c256 c257 c258 c259 c260 c261 c262 c263 c264 c265 c266 c267 c268 c269 c270 c271 c272 c273 c274 c275 c276 c277 c278 c279 c280 c281 c282 c283 c284 c285 c286 c287 c288 c289 c290 c291 c292 c293 c294 c295 c296 c297 c298 c299 c300 c301 c302 c303 c304 c305 c306 c307 c308 c309 c310 c311 c312 c313 c314 c315 c316 c317 c318 c319 c320 c321 c322 c323 c324 c325 c326 c327 c328 c329 c330 c331 c332 c333 c334 c335 c336 c337 c338 c339 c340 c341 c342 c343 c344 c345 c346 c347 c348 c349 c350 c351 c352 c353 c354 c355 c356 c357 c358 c359 c360 c361 c362 c363 c364 c365 c366 c367 c368 c369 c370 c371 c372 : Value} {w : World} {Q : Exit → Act → World → Prop} {fd hd : Addr} {k fc l hc j K : Nat} (hK : K < k) (hk : k ≤ 6) (hj : j < l) (hjK : j ≤ K)
    (hc' : j = 0 ∨ ∃ (j2 K2 b : Nat), j2 + 1 = j ∧ K2 + 1 = K ∧ w.cell? (fd.add K2) = some (.int .i64 (b : Int)) ∧ w.cell? (hd.add j2) = some (.int .i64 (b : Int)))
    (h : ∀ (u299 u300 u301 u302 u303 u304 u305 u306 u307 u308 u309 u310 u311 u312 u313 u314 u315 u316 : Value) (wx : World), Below w.heap.size w wx → Q .normal ⟨#[c0, c1, c2, c3, c4, c5, .slice (some fd) k fc, c7, c8, c9, c10, c11, c12, c13, c14, c15, c16, c17, c18, c19, .slice (some hd) l hc, .int .i64 (j : Int), c22, .int .i64 (K : Int), c24, c25, c26, c27, c28, c29, c30, c31, c32, c33, c34, c35, c36, c37, c38, c39, c40, c41, c42, c43, c44, c45, c46, c47, c48, c49, c50, c51, c52, c53, c54, c55, c56, c57, c58, c59, c60, c61, c62, c63, c64, c65, c66, c67, c68, c69, c70, c71, c72, c73, c74, c75, c76, c77, c78, c79, c80, c81, c82, c83, c84, c85, c86, c87, c88, c89, c90, c91, c92, c93, c94, c95, c96, c97, c98, c99, c100, c101, c102, c103, c104, c105, c106, c107, c108, c109, c110, c111, c112, c113, c114, c115, c116, c117, c118, c119, c120, c121, c122, c123, c124, c125, c126, c127, c128, c129, c130, c131, c132, c133, c134, c135, c136, c137, c138, c139, c140, c141, c142, c143, c144, c145, c146, c147, c148, c149, c150, c151, c152, c153, c154, c155, c156, c157, c158, c159, c160, c161, c162, c163, c164, c165, c166, c167, c168, c169, c170, c171, c172, c173, c174, c175, c176, c177, c178, c179, c180, c181, c182, c183, c184, c185, c186, c187, c188, c189, c190, c191, c192, c193, c194, c195, c196, c197, c198, c199, c200, c201, c202, c203, c204, c205, c206, c207, c208, c209, c210, c211, c212, c213, c214, c215, c216, c217, c218, c219, c220, c221, c222, c223, c224, c225, c226, c227, c228, c229, c230, c231, c232, c233, c234, c235, c236, c237, c238, c239, c240, c241, c242, c243, c244, c245, c246, c247, c248, c249, c250, c251, c252, c253, c254, c255, c256, c257, c258, c259, c260, c261, c262, c263, c264, c265, c266, c267, c268, c269, c270, c271, c272, c273, c274, c275, c276, c277, c278, c279, c280, c281, c282, c283, c284, c285, c286, c287, c288, c289, c290, c291, c292, c293, c294, c295, c296, c297, c298, u299, u300, u301, u302, u303, u304, u305, u306, u307, u308, u309, u310, u311, u312, u313, u314, u315, u316, .bool false, c318, c319, c320, c321, c322, c323, c324, c325, c326, c327, c328, c329, c330, c331, c332, c333, c334, c335, c336, c337, c338, c339, c340, c341, c342, c343, c344, c345, c346, c347, c348, c349, c350, c351, c352, c353, c354, c355, c356, c357, c358, c359, c360, c361, c362, c363, c364, c365, c366, c367, c368, c369, c370, c371, c372], []⟩ wx) :
    Code.wp Try.prog (tieRegion 45) Q ⟨#[c0, c1, c2, c3, c4, c5, .slice (some fd) k fc, c7, c8, c9, c10, c11, c12, c13, c14, c15, c16, c17, c18, c19, .slice (some hd) l hc, .int .i64 (j : Int), c22, .int .i64 (K : Int), c24, c25, c26, c27, c28, c29, c30, c31, c32, c33, c34, c35, c36, c37, c38, c39, c40, c41, c42, c43, c44, c45, c46, c47, c48, c49, c50, c51, c52, c53, c54, c55, c56, c57, c58, c59, c60, c61, c62, c63, c64, c65, c66, c67, c68, c69, c70, c71, c72, c73, c74, c75, c76, c77, c78, c79, c80, c81, c82, c83, c84, c85, c86, c87, c88, c89, c90, c91, c92, c93, c94, c95, c96, c97, c98, c99, c100, c101, c102, c103, c104, c105, c106, c107, c108, c109, c110, c111, c112, c113, c114, c115, c116, c117, c118, c119, c120, c121, c122, c123, c124, c125, c126, c127, c128, c129, c130, c131, c132, c133, c134, c135, c136, c137, c138, c139, c140, c141, c142, c143, c144, c145, c146, c147, c148, c149, c150, c151, c152, c153, c154, c155, c156, c157, c158, c159, c160, c161, c162, c163, c164, c165, c166, c167, c168, c169, c170, c171, c172, c173, c174, c175, c176, c177, c178, c179, c180, c181, c182, c183, c184, c185, c186, c187, c188, c189, c190, c191, c192, c193, c194, c195, c196, c197, c198, c199, c200, c201, c202, c203, c204, c205, c206, c207, c208, c209, c210, c211, c212, c213, c214, c215, c216, c217, c218, c219, c220, c221, c222, c223, c224, c225, c226, c227, c228, c229, c230, c231, c232, c233, c234, c235, c236, c237, c238, c239, c240, c241, c242, c243, c244, c245, c246, c247, c248, c249, c250, c251, c252, c253, c254, c255, c256, c257, c258, c259, c260, c261, c262, c263, c264, c265, c266, c267, c268, c269, c270, c271, c272, c273, c274, c275, c276, c277, c278, c279, c280, c281, c282, c283, c284, c285, c286, c287, c288, c289, c290, c291, c292, c293, c294, c295, c296, c297, c298, c299, c300, c301, c302, c303, c304, c305, c306, c307, c308, c309, c310, c311, c312, c313, c314, c315, c316, c317, c318, c319, c320, c321, c322, c323, c324, c325, c326, c327, c328, c329, c330, c331, c332, c333, c334, c335, c336, c337, c338, c339, c340, c341, c342, c343, c344, c345, c346, c347, c348, c349, c350, c351, c352, c353, c354, c355, c356, c357, c358, c359, c360, c361, c362, c363, c364, c365, c366, c367, c368, c369, c370, c371, c372], []⟩ w := by
  have H := Lib.hid h
  clear h
  conv => arg 2; whnf
  dsimp only
  refine wp_region_past (by kernel_rfl) (by kernel_rfl) ?_
  rcases hc' with hj0 | ⟨j2, K2, b, hj2, hK2, cf, ch⟩
  · have hj0i : ¬ (0 : Int) < (j : Int) := by omega
    have hj0d : decide ((0 : Int) < (j : Int)) = false := by simp; omega
    have hj0e : decide (0 < j) = false := by simp; omega
    clear hj0
    repeat (go_big_quiet_step (fail))
    refine wpQuiet_nil ?_
    intro wx hwx
    obtain ⟨⟨wy, hbx⟩, hw⟩ := hwx
    change wx = wy at hw
    subst hw
    exact H.out _ _ _ _ _ _ _ _ _ _ _ _ _ _ _ _ _ _ _ hbx
  · have hj0i : (0 : Int) < (j : Int) := by omega
    have hj0d : decide ((0 : Int) < (j : Int)) = true := by simp; omega
    have hj0e : decide (0 < j) = true := by simp; omega
    have wj : IntKind.i64.wrap ((j : Int) - 1) = (j2 : Int) := by rw [IntWalk.i64_in _ (by omega)]; omega
    have wK : IntKind.i64.wrap ((K : Int) - 1) = (K2 : Int) := by rw [IntWalk.i64_in _ (by omega)]; omega
    have hjl : (j2 : Int) < (l : Int) := by omega
    have hKk : (K2 : Int) < (k : Int) := by omega
    have hK1 : ¬ (K : Int) < 1 := by omega
    have hK1d : decide ((K : Int) < 1) = false := by simp; omega
    have hK1e : decide (K < 1) = false := by simp; omega
    have q1 : ∀ y : Past w, y.now.cell? (fd.add K2) = some (.int .i64 (b : Int)) := Past.cell cf
    have q2 : ∀ y : Past w, y.now.cell? (hd.add j2) = some (.int .i64 (b : Int)) := Past.cell ch
    have hbb : ((b : Int) != (b : Int)) = false := by simp
    have Hx1 := Lib.hid hj2
    have Hx2 := Lib.hid hK2
    clear hj2 hK2 cf ch
    repeat (go_big_quiet_step (fail))
    refine wpQuiet_nil ?_
    intro wx hwx
    obtain ⟨⟨wy, hbx⟩, hw⟩ := hwx
    change wx = wy at hw
    subst hw
    exact H.out _ _ _ _ _ _ _ _ _ _ _ _ _ _ _ _ _ _ _ hbx

end Go.Proofs.Ytehlijpjcjegcaa
