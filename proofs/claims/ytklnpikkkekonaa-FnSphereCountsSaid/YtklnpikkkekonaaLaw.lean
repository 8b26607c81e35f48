/-
  The walks of the laws' own helpers over rows of integers: sizes, copies, comparison, marking and reading the marks.
-/
import Derived.Test.YtklnpikkkekonaaRow
import Derived.Deep.OwnRows
namespace Go.Proofs.Ytklnpikkkekonaa
open Go.RowKit

/-- Counting up. -/
def cnt (k : Int) : Nat → List Int
  | 0 => []
  | n + 1 => cnt k n ++ [k + n]
theorem cnt_len {k : Int} : ∀ n, (cnt k n).length = n
  | 0 => rfl
  | n + 1 => by unfold cnt; rw [List.length_append, cnt_len n]; rfl
theorem cnt_get {k : Int} : ∀ {n j : Nat}, j < n → (cnt k n).getD j 0 = k + j
  | 0, j, h => by omega
  | n + 1, j, h => by
    unfold cnt
    by_cases hj : j < n
    · have := cnt_get (k := k) hj
      rw [List.getD_eq_getElem?_getD] at this ⊢
      rw [List.getElem?_append_left (by rw [cnt_len]; exact hj)]
      exact this
    · obtain rfl : j = n := by omega
      rw [List.getD_eq_getElem?_getD, List.getElem?_append_right (by rw [cnt_len]; exact Nat.le_refl _), cnt_len]
      simp
def szI (left : Int) (n : Nat) : Int := if left - n < 0 then -1 else left - n
/-- A slice over a row of the call's own, whatever its capacity. -/
def FrW (w : World) (B : Nat) (v : Value) (xs : List Int) : Prop := ∃ g cap cap', v = .slice (some ⟨g, 0, none⟩) xs.length cap ∧ OwnI w B g xs.length cap' xs
/-- A slice of the call's own, or nil. -/
def OwI (w : World) (B : Nat) (v : Value) (xs : List Int) : Prop := (v = .slice none 0 0 ∧ xs = []) ∨ FrW w B v xs
/-- A slice whose length is at most its capacity. -/
def Cp (v : Value) : Prop := ∃ a n c, v = .slice a n c ∧ n ≤ c ∧ c ≤ 9223372036854775807
section
variable {w w' : World} {B : Nat} {v : Value} {xs : List Int}
theorem FrI.wide (h : FrI w B v xs) : FrW w B v xs := by
  obtain ⟨g, cap, rfl, h⟩ := h
  exact ⟨g, cap, cap, rfl, h⟩
theorem FrI.cp (h : FrI w B v xs) : Cp v := by
  obtain ⟨g, cap, rfl, h⟩ := h
  have := h.caps
  simp only [maxLen] at this
  exact ⟨_, _, _, rfl, this.1, this.2⟩
theorem OwnI.cp {g n cap : Nat} (h : OwnI w B g n cap xs) : Cp (.slice (some ⟨g, 0, none⟩) n cap) := by
  have := h.caps
  simp only [maxLen] at this
  exact ⟨_, _, _, rfl, this.1, this.2⟩
theorem FrI.ow {B' : Nat} (h : FrI w B v xs) (hB : B' ≤ B) : OwI w B' v xs := .inr (h.more hB).wide
theorem OwnI.first {g n cap k : Nat} (h : OwnI w B g n cap xs) (hk : k ≤ n) : OwnI w B g k cap (xs.take k) := by
  obtain ⟨cur, hh, hc, ht⟩ := h.row
  refine OwnI.mk_ h.lt.1 hh hc ?_ (Nat.le_trans hk h.caps.1) h.caps.2
  rw [List.map_take, ← ht, List.take_take, Nat.min_eq_left hk]
theorem OwI.sl (h : OwI w B v xs) : Sl w v xs := by
  rcases h with ⟨rfl, rfl⟩ | ⟨g, cap, cap', rfl, h⟩
  · exact Sl.nil w
  · exact h.at.sl
theorem OwI.below (h : OwI w B v xs) (hb : Below w.heap.size w w') : OwI w' B v xs := by
  rcases h with h | ⟨g, cap, cap', rfl, h⟩
  · exact .inl h
  · exact .inr ⟨g, cap, cap', rfl, h.below hb⟩
theorem OwI.more {B' : Nat} (h : OwI w B v xs) (hB : B' ≤ B) : OwI w B' v xs := by
  rcases h with h | ⟨g, cap, cap', rfl, h⟩
  · exact .inl h
  · exact .inr ⟨g, cap, cap', rfl, h.rebase (Nat.le_trans hB h.lt.1)⟩
theorem OwI.far {row : Option Nat} (h : OwI w B v xs) (hg : w.grownBy w' row) (hr : ∀ g, row = some g → g < B) : OwI w' B v xs := by
  rcases h with h | ⟨g, cap, cap', rfl, h⟩
  · exact .inl h
  · exact .inr ⟨g, cap, cap', rfl, h.grown hg (fun e => by have := hr g e.symm; have := h.lt; omega)⟩
theorem OwI.blk (h : OwI w B v xs) : ∀ g, v.ownBlock = some g → B ≤ g ∧ g < w.heap.size := by
  rcases h with ⟨rfl, _⟩ | ⟨g, cap, cap', rfl, h⟩
  · intro g hg; cases hg
  · intro g' hg
    cases hg
    exact h.lt
/-- Older memory behind a write to a row of the call's own. -/
theorem blw_mark {a : World} {row : Option Nat} (h : Below a.heap.size a w) (hg : w.grownBy w' row) (hr : ∀ g, row = some g → a.heap.size ≤ g) : Below a.heap.size a w' := h.grown hg h.size hr
end
theorem made_list (v : Value) (n : Nat) : (madeCells #[v] n).toList = List.replicate n v := by
  refine List.ext_getElem (by simp [madeCells]) fun i h1 h2 => ?_
  simp [madeCells, Nat.mod_one]
end Go.Proofs.Ytklnpikkkekonaa
