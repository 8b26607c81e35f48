/- Texts joined for a claim: Law, Space. -/
import Derived.Test.YtacfanjejaellaaGreatRow
import Derived.Deep.OwnRows
/-
  The walks of the laws' own helpers over rows of integers: sizes, copies, comparison, marking and reading the marks.
-/
namespace Go.Proofs.YtacfanjejaellaaGreat
open Go.RowKit

/-- A slice over a row of the call's own, whatever its capacity. -/
def FrW (w : World) (B : Nat) (v : Value) (xs : List Int) : Prop := ∃ g cap cap', v = .slice (some ⟨g, 0, none⟩) xs.length cap ∧ OwnI w B g xs.length cap' xs
/-- A slice of the call's own, or nil. -/
def OwI (w : World) (B : Nat) (v : Value) (xs : List Int) : Prop := (v = .slice none 0 0 ∧ xs = []) ∨ FrW w B v xs
/-- A slice whose length is at most its capacity. -/
def Cp (v : Value) : Prop := ∃ a n c, v = .slice a n c ∧ n ≤ c ∧ c ≤ 9223372036854775807
section
variable {w w' : World} {B : Nat} {v : Value} {xs : List Int}
theorem FrI.wide (h : FrI w B v xs) : FrW w B v xs := by
  obtain ⟨g, cap, rfl, h⟩ := h
  exact ⟨g, cap, cap, rfl, h⟩
theorem FrI.cp (h : FrI w B v xs) : Cp v := by
  obtain ⟨g, cap, rfl, h⟩ := h
  have := h.caps
  simp only [maxLen] at this
  exact ⟨_, _, _, rfl, this.1, this.2⟩
theorem OwnI.cp {g n cap : Nat} (h : OwnI w B g n cap xs) : Cp (.slice (some ⟨g, 0, none⟩) n cap) := by
  have := h.caps
  simp only [maxLen] at this
  exact ⟨_, _, _, rfl, this.1, this.2⟩
theorem OwnI.first {g n cap k : Nat} (h : OwnI w B g n cap xs) (hk : k ≤ n) : OwnI w B g k cap (xs.take k) := by
  obtain ⟨cur, hh, hc, ht⟩ := h.row
  refine OwnI.mk_ h.lt.1 hh hc ?_ (Nat.le_trans hk h.caps.1) h.caps.2
  rw [List.map_take, ← ht, List.take_take, Nat.min_eq_left hk]
theorem OwI.sl (h : OwI w B v xs) : Sl w v xs := by
  rcases h with ⟨rfl, rfl⟩ | ⟨g, cap, cap', rfl, h⟩
  · exact Sl.nil w
  · exact h.at.sl
theorem OwI.below (h : OwI w B v xs) (hb : Below w.heap.size w w') : OwI w' B v xs := by
  rcases h with h | ⟨g, cap, cap', rfl, h⟩
  · exact .inl h
  · exact .inr ⟨g, cap, cap', rfl, h.below hb⟩
theorem OwI.more {B' : Nat} (h : OwI w B v xs) (hB : B' ≤ B) : OwI w B' v xs := by
  rcases h with h | ⟨g, cap, cap', rfl, h⟩
  · exact .inl h
  · exact .inr ⟨g, cap, cap', rfl, h.rebase (Nat.le_trans hB h.lt.1)⟩
theorem OwI.far {row : Option Nat} (h : OwI w B v xs) (hg : w.grownBy w' row) (hr : ∀ g, row = some g → g < B) : OwI w' B v xs := by
  rcases h with h | ⟨g, cap, cap', rfl, h⟩
  · exact .inl h
  · exact .inr ⟨g, cap, cap', rfl, h.grown hg (fun e => by have := hr g e.symm; have := h.lt; omega)⟩
theorem OwI.blk (h : OwI w B v xs) : ∀ g, v.ownBlock = some g → B ≤ g ∧ g < w.heap.size := by
  rcases h with ⟨rfl, _⟩ | ⟨g, cap, cap', rfl, h⟩
  · intro g hg; cases hg
  · intro g' hg
    cases hg
    exact h.lt
end
theorem made_list (v : Value) (n : Nat) : (madeCells #[v] n).toList = List.replicate n v := by
  refine List.ext_getElem (by simp [madeCells]) fun i h1 h2 => ?_
  simp [madeCells, Nat.mod_one]
end Go.Proofs.YtacfanjejaellaaGreat
/-
  Spaces: a prime and a row of squares, as a value of two parts; the laws' helpers over them, and the program's small questions.
-/
namespace Go.Proofs.YtacfanjejaellaaGreat
open Go.RowKit

theorem kept {W w1 : World} (hb : Below W.heap.size W w1) {b o : Nat} {v : Value} (h : W.cell? ⟨b, o, none⟩ = some v) : w1.cell? ⟨b, o, none⟩ = some v := by
  rw [hb.cell (p := ⟨b, o, none⟩) (World.block_lt_of_cell? W _ h)]; exact h
theorem OwnI.other {w : World} {B g n cap : Nat} {xs : List Int} (h : OwnI w B g n cap xs) {p : Addr} (hp : g ≠ p.block) (u : Value) : OwnI (w.setCell p u) B g n cap xs := by
  obtain ⟨cur, hh, hc, ht⟩ := h.row
  exact OwnI.mk_ h.lt.1 (by rw [← hh]; exact Below.heap_setCell _ _ _ _ hp) hc ht h.caps.1 h.caps.2
theorem sprime_c {p : Int} {w : World} : Calls Tryz.prog 163 #[.int .i64 p] w fun e w' => e = .returned (.bool (prB p)) ∧ w = w' := by
  by_cases h3 : p = 3
  · subst h3; go_enter Tryz.func163, Tryz.ntmps163; go_wp2; go_ret; exact ⟨rfl, rfl⟩
  by_cases h5 : p = 5
  · subst h5; go_enter Tryz.func163, Tryz.ntmps163; go_wp2; go_ret; exact ⟨rfl, rfl⟩
  by_cases h7 : p = 7
  · subst h7; go_enter Tryz.func163, Tryz.ntmps163; go_wp2; go_ret; exact ⟨rfl, rfl⟩
  by_cases h11 : p = 11
  · subst h11; go_enter Tryz.func163, Tryz.ntmps163; go_wp2; go_ret; exact ⟨rfl, rfl⟩
  by_cases h13 : p = 13
  · subst h13; go_enter Tryz.func163, Tryz.ntmps163; go_wp2; go_ret; exact ⟨rfl, rfl⟩
  have e : prB p = false := by simp [prB, IsP, *]
  have E := Lib.hid e; clear e
  have g3 : (p == 3) = false := by simpa using h3
  have g5 : (p == 5) = false := by simpa using h5
  have g7 : (p == 7) = false := by simpa using h7
  have g11 : (p == 11) = false := by simpa using h11
  have g13 : (p == 13) = false := by simpa using h13
  go_enter Tryz.func163, Tryz.ntmps163; go_wp2; go_ret; exact ⟨by rw [E.out]; rfl, rfl⟩
theorem sin_c {n l h : Int} {w : World} :
    Calls Tryz.prog 141 #[.int .i64 n, .int .i64 l, .int .i64 h] w fun e w' => e = .returned (.bool (inR n l h)) ∧ w = w' := by
  by_cases h1 : l ≤ n
  · go_enter Tryz.func141, Tryz.ntmps141
    go_wp2
    go_ret
    exact ⟨by simp [inR, *], rfl⟩
  · go_enter Tryz.func141, Tryz.ntmps141
    go_wp2
    go_ret
    exact ⟨by simp [inR]; omega, rfl⟩
theorem prB_iff {p : Int} : prB p = true ↔ IsP p := by simp [prB]
end Go.Proofs.YtacfanjejaellaaGreat
