
/- Contracts: the other pattern (reference). -/
import Derived.Test.YtfkccgblgjpalaaGreatRepT
namespace Go.Proofs.YtfkccgblgjpalaaGreat
open Go.RowKit
set_option linter.unusedVariables false
set_option linter.unusedSimpArgs false

theorem one_of (s : ByteArray) (k : Nat) (hk : k < s.size) : s.extract k (k + 1) = ⟨#[s[k]]⟩ := by
  apply ByteArray.ext
  apply Array.ext'
  have h1 : (s.extract k (k + 1)).data = s.data.extract k (k + 1) := ByteArray.data_extract ..
  rw [h1]
  apply List.ext_getElem?
  intro i
  have hs : k < s.data.size := hk
  cases i with
  | zero => simp [hs]; rw [Array.getElem?_eq_getElem hs]; rfl
  | succ i => simp; omega
theorem str_snoc' (xs : List Int) (b : UInt8) (y : Int) (h : UInt8.ofNat y.toNat = b) : strOfNums xs ++ ⟨#[b]⟩ = strOfNums (xs ++ [y]) := by
  apply ByteArray.ext
  simp [strOfNums, h]
def swI (c : UInt8) : Int := ((swapB c.toNat : Nat) : Int)

end Go.Proofs.YtfkccgblgjpalaaGreat
