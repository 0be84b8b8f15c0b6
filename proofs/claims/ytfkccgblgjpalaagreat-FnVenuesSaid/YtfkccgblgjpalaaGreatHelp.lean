
/- Contracts of the laws' own helpers on lists of numbers and on lists of lists: how many cells they hold, copies, equality, marks. -/
import Derived.Test.YtfkccgblgjpalaaGreatRows
import Derived.Test.YtfkccgblgjpalaaGreatBase
namespace Go.Proofs.YtfkccgblgjpalaaGreat
open Go.RowKit

theorem info_int : (Tryz.prog.info? 3).map (fun i => (i.zero, i.size, i.bytes)) = some (some (.int .i64 0), 1, 8) := by kernel_rfl
theorem info_ints : (Tryz.prog.info? 36).map (fun i => (i.zero, i.size, i.bytes)) = some (some (.slice none 0 0), 1, 24) := by kernel_rfl

/-! ### Sizes -/
def szR : List (List Int) → Int → Int
  | [], l => l
  | xs :: r, l => if l - xs.length < 0 then -1 else szR r (l - xs.length)
def szRows (xss : List (List Int)) (l : Int) : Int := if l - xss.length < 0 then -1 else szR xss (l - xss.length)

theorem arr_map (xs : List Int) : (xs.map (Value.int .i64)).length = xs.length := by simp

/-- What 'make' lays is a row of the call's own. -/
theorem own_made (T : TypeId) (lo : Nat) (w : World) (z : Value) (n : Nat) (hlo : lo ≤ w.heap.size) (hm : n ≤ maxLen) :
    Own T lo (w.heap.size + 1) (w.alloc (.cells (madeCells #[z] n) T)) (some ⟨w.heap.size, 0, none⟩) n (List.replicate n z) := by
  refine ⟨by simp, hm, .inr ⟨w.heap.size, _, rfl, hlo, Nat.lt_succ_self _, heap_alloc_new w _, size_madeCells _ _, ?_⟩⟩
  rw [toList_madeCells_one]; simp

theorem replicate_drop_at {n k : Nat} {z : Value} (h : k < n) : (List.replicate n z)[k]? = some z := by simp [h]

/-- The outer row while it is filled: 'k' headers, then zero values. -/
theorem outer_step {hs : List (Option Addr × Nat)} {xss : List (List Int)} {k n : Nat} {a : Option Addr} {c' : Nat} {xs : List Int} {z : Value} (hl : hs.length = k) (hx : xss[k]? = some xs) (hn : k < n) :
    (List.zipWith hdr hs (xss.take k) ++ List.replicate (n - k) z).set k (.slice a xs.length c') = List.zipWith hdr (hs ++ [(a, c')]) (xss.take (k + 1)) ++ List.replicate (n - (k + 1)) z := by
  have hk := lt_of hx
  have hz : (List.zipWith hdr hs (xss.take k)).length = k := by simp [hl]; omega
  rw [List.set_append_right _ _ (by omega), hz, take_of hx, List.zipWith_append (by simp [hl]; omega)]
  have e : n - k = (n - (k + 1)) + 1 := by omega
  rw [e, List.replicate_succ, Nat.sub_self, List.set_cons_zero, List.append_assoc]
  rfl
theorem outer_at {hs : List (Option Addr × Nat)} {xss : List (List Int)} {k n : Nat} {z : Value} (hl : hs.length = k) (hx : k < xss.length) (hn : k < n) :
    (List.zipWith hdr hs (xss.take k) ++ List.replicate (n - k) z)[k]? = some z := by
  have hz : (List.zipWith hdr hs (xss.take k)).length = k := by simp [hl]; omega
  rw [List.getElem?_append_right (by omega), hz, Nat.sub_self]
  have e : n - k = (n - (k + 1)) + 1 := by omega
  rw [e, List.replicate_succ]; rfl

def upFrom : Int → Nat → List Int
  | _, 0 => []
  | k, n + 1 => k :: upFrom (k + 1) n
theorem upFrom_length : ∀ (n : Nat) (k : Int), (upFrom k n).length = n
  | 0, _ => rfl
  | n + 1, k => by simp [upFrom, upFrom_length n]
theorem upFrom_at : ∀ (n : Nat) (k : Int) (j : Nat), j < n → (upFrom k n)[j]? = some (k + j)
  | 0, _, _, h => by omega
  | n + 1, k, 0, _ => by simp [upFrom]
  | n + 1, k, j + 1, h => by
    rw [upFrom, List.getElem?_cons_succ, upFrom_at n (k + 1) j (by omega)]
    congr 1; omega
def total : List (List Int) → Nat
  | [] => 0
  | xs :: r => xs.length + total r
def markRows : Int → List (List Int) → List (List Int)
  | _, [] => []
  | k, xs :: r => upFrom k xs.length :: markRows (k + xs.length) r
theorem markRows_length : ∀ (xss : List (List Int)) (k : Int), (markRows k xss).length = xss.length
  | [], _ => rfl
  | xs :: r, k => by simp [markRows, markRows_length r]
theorem total_mark : ∀ (xss : List (List Int)) (k : Int), total (markRows k xss) = total xss
  | [], _ => rfl
  | xs :: r, k => by simp [markRows, total, total_mark r, upFrom_length]
theorem mark_mark : ∀ (xss : List (List Int)) (k j : Int), markRows k (markRows j xss) = markRows k xss
  | [], _, _ => rfl
  | xs :: r, k, j => by simp [markRows, mark_mark r, upFrom_length]

theorem total_take_le : ∀ (xss : List (List Int)) (k : Nat) (xs : List Int), xss[k]? = some xs → total (xss.take k) + xs.length ≤ total xss
  | [], _, _, h => by simp at h
  | ys :: r, 0, xs, h => by simp at h; subst h; simp [total]
  | ys :: r, k + 1, xs, h => by
    have := total_take_le r k xs (by simpa using h)
    simp [total]; omega
theorem total_take_succ : ∀ (xss : List (List Int)) (k : Nat) (xs : List Int), xss[k]? = some xs → total (xss.take (k + 1)) = total (xss.take k) + xs.length
  | [], _, _, h => by simp at h
  | ys :: r, 0, xs, h => by simp at h; subst h; simp [total]
  | ys :: r, k + 1, xs, h => by
    have := total_take_succ r k xs (by simpa using h)
    simp only [List.take_succ_cons, total]; omega
theorem markRows_at : ∀ (xss : List (List Int)) (k : Nat) (k0 : Int) (xs : List Int), xss[k]? = some xs → (markRows k0 xss)[k]? = some (upFrom (k0 + total (xss.take k)) xs.length)
  | [], _, _, _, h => by simp at h
  | ys :: r, 0, k0, xs, h => by simp at h; subst h; simp [markRows, total]
  | ys :: r, k + 1, k0, xs, h => by
    have := markRows_at r k (k0 + ys.length) xs (by simpa using h)
    simp only [markRows, List.getElem?_cons_succ, this, List.take_succ_cons, total]
    congr 2; omega

end Go.Proofs.YtfkccgblgjpalaaGreat
