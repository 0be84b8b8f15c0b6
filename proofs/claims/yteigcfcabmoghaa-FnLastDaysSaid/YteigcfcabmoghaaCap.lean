/- The capacity of a slice that the call itself made is at least its length. -/
import Derived.Test.YteigcfcabmoghaaOpen
namespace Go.Proofs.Yteigcfcabmoghaa
open Go.RowKit
theorem Own.cap {T : TypeId} {lo hi : Nat} {w : World} {A : Option Addr} {c : Nat} {xs : List Int} (h : Own T lo hi w A c (xs.map (.int .i64))) : xs.length ≤ c := by
  have := h.1; rwa [List.length_map] at this
theorem Own2.cap {T TT : TypeId} {lo hi : Nat} {w : World} {A : Option Addr} {c : Nat} {xss : List (List Int)} (h : Own2 T TT lo hi w A c xss) : xss.length ≤ c := by
  obtain ⟨hs, h1, h2⟩ := h
  have h3 := h1.1
  have h4 := h2.len
  rw [List.length_zipWith] at h3
  omega
end Go.Proofs.Yteigcfcabmoghaa
