/- Texts joined for a claim: HcB, HcC, HcE. -/
import Derived.Test.YtmplpoccalccoaaHcA
import Derived.Lib.AppendZeros
/-
  The reference's checks of hermitian matrices.
-/
namespace Go.Proofs.Ytmplpoccalccoaa
open Go.RowKit

end Go.Proofs.Ytmplpoccalccoaa
/-
  Hermitian matrices by their parts; traces and determinants.
-/
namespace Go.Proofs.Ytmplpoccalccoaa
open Go.RowKit

end Go.Proofs.Ytmplpoccalccoaa
/-
  Hermitian matrices out of lists of numbers, and the lists of their numbers: the program's walks.
-/
namespace Go.Proofs.Ytmplpoccalccoaa
open Go.RowKit

theorem FrH.mk_ {w1 w2 : World} {B : Nat} {d u : Value} {us : List Value} {dg : List Int} {up : List (List Int)} (h1 : FrI w1 B d dg) (hb : Below w1.heap.size w1 w2) (h2 : FrR w2 w1.heap.size u us up) (hB : B ≤ w1.heap.size) : FrH w2 B (.agg #[d, u]) ⟨dg, up⟩ := by
  refine ⟨d, u, us, rfl, h1.below hb, h2.more hB, fun z hz e => ?_⟩
  obtain ⟨g, hg, hg1, _⟩ : ∃ g, z.ownBlock = some g ∧ w1.heap.size ≤ g ∧ g < w2.heap.size := by
    obtain ⟨_, _, _, _, h4, h5, h6⟩ := h2
    exact RowsA.mem ⟨h4, h5, h6⟩ hz
  obtain ⟨gd, hgd, _, hgd2⟩ := h1.blk
  rw [hg, hgd] at e
  cases e
  omega
theorem FrI.set_ {w : World} {B : Nat} {v : Value} {xs : List Int} (h : FrI w B v xs) {p : Addr} (hp : p.block < B) (u : Value) : FrI (w.setCell p u) B v xs := by
  obtain ⟨g, cap, rfl, h⟩ := h
  exact ⟨g, cap, rfl, h.other (by have := h.lt.1; omega) u⟩
theorem FrR.set_ {w : World} {B : Nat} {v : Value} {us : List Value} {xss : List (List Int)} (h : FrR w B v us xss) {p : Addr} (hp : p.block < B) (u : Value) : FrR (w.setCell p u) B v us xss := by
  obtain ⟨g0, cap0, e0, hB, hs, _⟩ := h.lt
  obtain ⟨g, cap, rfl, h1, h2, h3, h4⟩ := h
  cases e0
  exact ⟨g0, cap0, rfl, ownsRow_of h1 (Below.heap_setCell _ _ _ _ (by omega)) hB, h2, fun j a b => (h3 j a b).set_ hp u, h4⟩
theorem FrH.set_ {w : World} {B : Nat} {v : Value} {X : Her} (h : FrH w B v X) {p : Addr} (hp : p.block < B) (u : Value) : FrH (w.setCell p u) B v X := by
  obtain ⟨d, u', us, rfl, h1, h2, h3⟩ := h
  exact ⟨d, u', us, rfl, h1.set_ hp u, h2.set_ hp u, h3⟩
end Go.Proofs.Ytmplpoccalccoaa
