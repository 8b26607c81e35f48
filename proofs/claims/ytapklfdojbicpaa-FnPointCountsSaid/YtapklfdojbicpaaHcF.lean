/-
  Entries of hermitian matrices and of their products.
-/
import Derived.Test.YtapklfdojbicpaaHcE
namespace Go.Proofs.Ytapklfdojbicpaa
open Go.RowKit

theorem Ev.plus {p k : Int} {n : Nat} {xs ys : List Int} (hp : 1 ≤ p) (h : Ev p n xs) (h' : Ev p n ys) : Ev p n (plusL p xs ys k) := ⟨by rw [plusL_len (by rw [h.1, h'.1])]; exact h.1, plusL_fp hp⟩
theorem Ev.scale {p k : Int} {n : Nat} {xs : List Int} (hp : 1 ≤ p) (h : Ev p n xs) : Ev p n (scaleL p xs k) := ⟨by rw [scaleL_len]; exact h.1, scaleL_fp hp⟩
theorem Ev.zero {p : Int} {n : Nat} (hp : 1 ≤ p) : Ev p n (List.replicate n 0) := ⟨List.length_replicate, fun x hx => by have := List.eq_of_mem_replicate hx; omega⟩
theorem Ev.one {p : Int} {n i : Nat} (hp : 2 ≤ p) : Ev p n (oneL n i) := ⟨oneL_len, oneL_fp hp⟩
theorem entryH_ev {p : Int} {n : Nat} {X : Her} {i j : Nat} (hp : 2 ≤ p) (hX : isH p n X = true) (hi : i < 3) (hj : j < 3) : Ev p n (entryH p n X i j) := by
  obtain ⟨a, b, c, u, v, t, rfl, h1, h2, h3, h4, h5, h6, eu, ev, et⟩ := isH_op hX
  have z : ∀ k, Ev p n (scaleL p (oneL n 0) k) := fun k => Ev.scale (by omega) (Ev.one hp)
  have c1 := eu.conj (p := p) (by omega)
  have c2 := ev.conj (p := p) (by omega)
  have c3 := et.conj (p := p) (by omega)
  rcases (show i = 0 ∨ i = 1 ∨ i = 2 by omega) with rfl | rfl | rfl <;> rcases (show j = 0 ∨ j = 1 ∨ j = 2 by omega) with rfl | rfl | rfl
  · exact z a
  · exact et
  · exact c2
  · exact c3
  · exact z b
  · exact eu
  · exact ev
  · exact c1
  · exact z c
end Go.Proofs.Ytapklfdojbicpaa
