/- Texts joined for a claim: Aut, MeA, LinD, LinE. -/
import Derived.Test.YtmplpoccalccoaaTriB
import Derived.Test.YtmplpoccalccoaaLinC
import Derived.Test.YtmplpoccalccoaaJay
/-
  Automorphisms: the program's test and the reference's are the same. No program in sight.
-/
namespace Go.Proofs.Ytmplpoccalccoaa

end Go.Proofs.Ytmplpoccalccoaa
/-
  MapEntries: what it computes. No program in sight.
-/
namespace Go.Proofs.Ytmplpoccalccoaa

def tabB (p : Int) (M : List (List Int)) : Bool := decide (M.length ≤ 16) && M.all fun r => decide (r.length = (M.getD 0 []).length) && decide (1 ≤ r.length) && decide (r.length ≤ 16) && isL p r
def matP (p : Int) (n : Nat) (M : List (List Int)) : Bool := decide (0 < M.length) && tabB p M && decide (M.length = n) && decide ((M.getD 0 []).length = n)
theorem matP_eq {p : Int} {n : Nat} {M : List (List Int)} (h1 : 1 ≤ n) (h2 : n ≤ 16) : matP p n M = matB p n M := by
  rw [Bool.eq_iff_iff, matB_iff]
  unfold matP tabB Ev
  simp only [Bool.and_eq_true, decide_eq_true_eq, List.all_eq_true, isL_fp]
  constructor
  · rintro ⟨⟨⟨_, _, hall⟩, hl⟩, h0⟩
    exact ⟨hl, fun r hr => ⟨(hall r hr).1.1.1.trans h0, (hall r hr).2⟩⟩
  · rintro ⟨hl, h⟩
    have e0 := (h _ (get_mem (B := M) (i := 0) (by omega))).1
    exact ⟨⟨⟨by omega, by omega, fun r hr => ⟨⟨⟨(h r hr).1.trans e0.symm, by have := (h r hr).1; omega⟩, by have := (h r hr).1; omega⟩, (h r hr).2⟩⟩, hl⟩, e0⟩
end Go.Proofs.Ytmplpoccalccoaa
/-
  Reduced rows by the reference: what is left of a row, a row put, all rows put.
-/
namespace Go.Proofs.Ytmplpoccalccoaa
open Go.RowKit

/-! ### Rows of the call's own -/
def RowsF (w : World) (B : Nat) (us : List Value) (xss : List (List Int)) : Prop := us.length = xss.length ∧ ∀ j (h : j < us.length) (h' : j < xss.length), FrI w B us[j] xss[j]
section
variable {w w' : World} {B B' : Nat} {v u : Value} {us us' : List Value} {xss : List (List Int)} {xs : List Int}
theorem RowsF.nil (w : World) (B : Nat) : RowsF w B [] [] := ⟨rfl, fun j h => by simp at h⟩
theorem RowsF.below (h : RowsF w B us xss) (hb : Below w.heap.size w w') : RowsF w' B us xss := ⟨h.1, fun j a b => (h.2 j a b).below hb⟩
theorem RowsF.app (h : RowsF w B us xss) (ho : OwV w B' v us') (hg : w.grownBy w' v.ownBlock) : RowsF w' B us xss := ⟨h.1, fun j a b => (h.2 j a b).app ho hg⟩
theorem RowsF.snoc (h : RowsF w B us xss) (hu : FrI w B u xs) : RowsF w B (us ++ [u]) (xss ++ [xs]) := by
  refine ⟨by simp [h.1], fun j a b => ?_⟩
  rw [List.length_append] at a
  simp at a
  by_cases hj : j < us.length
  · have := h.1
    rw [List.getElem_append_left hj, List.getElem_append_left (by omega)]
    exact h.2 j hj (by omega)
  · obtain rfl : j = us.length := by omega
    have e := h.1
    have h1 : (us ++ [u])[us.length]'(by simp) = u := by simp
    have h2 : (xss ++ [xs])[us.length]'(by simp [e]) = xs := by simp [e]
    rw [h1, h2]; exact hu
theorem RowsF.re (h : RowsF w B us xss) (ho : OwV w B v us) : Re w v xss := by
  have hl := h.1
  rcases ho.2 with ⟨rfl, h2⟩ | ⟨g, cap, cur, rfl, hB, hh, h3, h4, h5, h6⟩
  · have : us.length = 0 := by simpa using h2
    have e : xss = [] := List.eq_nil_of_length_eq_zero (by omega)
    rw [e]; exact Re.nil w
  · simp only [maxLen] at h4
    refine ⟨_, cap, by rw [hl], by omega, by omega, .inr ⟨g, 0, rfl, fun j hj => ⟨us[j]'(by omega), ?_, (h.2 j (by omega) hj).el⟩⟩⟩
    have := World.ownsRow.cells ho (g := g) rfl j (us[j]'(by omega)) (by simp)
    rw [addz] at this
    rw [Nat.zero_add]; exact this
end
/-! ### Putting a row -/
end Go.Proofs.Ytmplpoccalccoaa
/-
  Reduced rows by the reference: the walks of a row put and of all rows put.
-/
namespace Go.Proofs.Ytmplpoccalccoaa
open Go.RowKit

end Go.Proofs.Ytmplpoccalccoaa
