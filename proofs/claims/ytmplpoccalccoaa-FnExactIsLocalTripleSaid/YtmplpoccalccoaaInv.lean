/-
  Inverses of numbers, and differences of rows of numbers.
-/
import Derived.Test.YtmplpoccalccoaaMem
namespace Go.Proofs.Ytmplpoccalccoaa
open Go.RowKit

theorem inv_all : ∀ p ∈ [3, 5, 7, 11, 13], ∀ a ∈ List.range p, a ≠ 0 → 1 ≤ invL (p : Nat) (a : Nat) ∧ (a : Int) * invL (p : Nat) (a : Nat) % (p : Nat) = 1 ∧ ∀ b ∈ List.range p, 1 ≤ b → (b : Int) < invL (p : Nat) (a : Nat) → (a : Int) * b % (p : Nat) ≠ 1 := by decide +kernel
theorem inv_tab {p a : Int} (hp : IsP p) (h1 : 1 ≤ a) (h2 : a < p) : 1 ≤ invL p a ∧ a * invL p a % p = 1 ∧ ∀ b, 1 ≤ b → b < invL p a → a * b % p ≠ 1 := by
  obtain ⟨n, rfl⟩ := Int.eq_ofNat_of_zero_le (show 0 ≤ p by have := hp.lo; omega)
  obtain ⟨m, rfl⟩ := Int.eq_ofNat_of_zero_le (show 0 ≤ a by omega)
  have hi := (invL_fp (p := (n : Int)) (a := (m : Int)) (by have := hp.lo; omega)).2
  obtain ⟨k1, k2, k3⟩ := inv_all n (by unfold IsP at hp; simp; omega) m (by simp; omega) (by omega)
  refine ⟨k1, k2, fun b hb1 hb2 => ?_⟩
  obtain ⟨j, rfl⟩ := Int.eq_ofNat_of_zero_le (show 0 ≤ b by omega)
  exact k3 j (by simp; omega) (by omega) hb2
theorem below_le {a b : World} (h : Below a.heap.size a b) : a.heap.size ≤ b.heap.size := h.size
end Go.Proofs.Ytmplpoccalccoaa
