/- The table of a league: keys, and the program's comparison against them. Plain Lean. -/
import Derived.Test.YtehlijpjcjegcaaAmong
import Derived.Test.YtehlijpjcjegcaaOrderS
namespace Go.Proofs.Ytehlijpjcjegcaa
set_option linter.unusedSimpArgs false
set_option linter.unusedVariables false
open Go.RowKit

def keyT (n : Nat) (rs : List Res) (k : Nat) : Int := ((pointsF n rs).getD k 0 * 20000 + madeF rs (k : Int) - agstF rs (k : Int) + 10000) * 10000 + madeF rs (k : Int)
def keysL (n : Nat) (rs : List Res) : List Int := (List.range n).map (keyT n rs)
def tableF (n : Nat) (rs : List Res) : List Nat := insAll (byKey (keyT n rs)) n
def tabF (n : Int) (rs : List Res) : List Nat := if leagueOk n rs = true then tableF n.toNat rs else []
theorem keysL_len (n : Nat) (rs : List Res) : (keysL n rs).length = n := by simp [keysL]
theorem keysL_at {n : Nat} {rs : List Res} {k : Nat} (h : k < n) : (keysL n rs)[k]? = some (keyT n rs k) := by rw [keysL, List.getElem?_map, List.getElem?_range h]; rfl
theorem order_keys (n : Nat) (rs : List Res) : orderF (keysL n rs) = tableF n rs := by
  rw [orderF, tableF, keysL_len]
  refine insAll_congr n (fun a b ha hb => ?_)
  rw [byKey, byKey, keyOf, keyOf, List.getD_eq_getElem?_getD, List.getD_eq_getElem?_getD, keysL_at ha, keysL_at hb]; rfl
/-- The first of three that is not 0. -/
def or3 (x y z : Int) : Int := if x = 0 then (if y = 0 then z else y) else x
def cmpT (n : Nat) (rs : List Res) (a b : Nat) : Int :=
  or3 ((pointsF n rs).getD b 0 - (pointsF n rs).getD a 0) ((madeF rs (b : Int) - agstF rs (b : Int)) - (madeF rs (a : Int) - agstF rs (a : Int))) (madeF rs (b : Int) - madeF rs (a : Int))
theorem points_bd {n : Nat} {rs : List Res} (hL : League n rs) (k : Nat) : 0 ≤ (pointsF n rs).getD k 0 ∧ (pointsF n rs).getD k 0 ≤ 180 := by
  have h60 := hL.few
  by_cases hk : k < n
  · have hb := ptFold_bnd rs _ 0 (bnd_zeros n 0 (Int.le_refl _)) hL.ok
    have h := hb.get hk
    rw [pointsF]; omega
  · have hl : (pointsF n rs).length = n := pointsF_len hL
    rw [List.getD_eq_getElem?_getD, List.getElem?_eq_none (by omega)]
    exact ⟨Int.le_refl _, by decide⟩
theorem cmp_key {n : Nat} {rs : List Res} (hL : League n rs) (a b : Nat) : decide (cmpT n rs a b < 0) = byKey (keyT n rs) b a := by
  obtain ⟨p0, p1⟩ := points_bd hL a
  obtain ⟨q0, q1⟩ := points_bd hL b
  obtain ⟨m0, m1, a0, a1⟩ := goals_bd hL (a : Int)
  obtain ⟨m2, m3, a2, a3⟩ := goals_bd hL (b : Int)
  rw [byKey, decide_eq_decide, cmpT, keyT, keyT]
  generalize (pointsF n rs).getD a 0 = pa at *
  generalize (pointsF n rs).getD b 0 = pb at *
  generalize madeF rs (a : Int) = ma at *
  generalize madeF rs (b : Int) = mb at *
  generalize agstF rs (a : Int) = ga at *
  generalize agstF rs (b : Int) = gb at *
  unfold or3
  split
  · split
    · omega
    · omega
  · omega
end Go.Proofs.Ytehlijpjcjegcaa
