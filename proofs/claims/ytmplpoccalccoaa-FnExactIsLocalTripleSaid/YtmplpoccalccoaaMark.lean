/-
  Marks on rows of rows and on matrices, and what a mark leaves as it was.
-/
import Derived.Test.YtmplpoccalccoaaLawH
namespace Go.Proofs.Ytmplpoccalccoaa
open Go.RowKit

/-- Blocks from lo to hi may have changed, no others. -/
structure Chg (lo hi : Nat) (w w' : World) : Prop where
  os : w'.os = w.os
  tape : w'.tape = w.tape
  output : w'.output = w.output
  size : w.heap.size ≤ w'.heap.size
  block : ∀ k, k < w.heap.size → (k < lo ∨ hi ≤ k) → w'.heap[k]? = w.heap[k]?
section
variable {lo hi lo' hi' B : Nat} {a w w' w2 : World} {v : Value} {xs : List Int}
theorem Chg.refl : Chg lo hi w w := ⟨rfl, rfl, rfl, Nat.le_refl _, fun _ _ _ => rfl⟩
theorem Chg.trans (h : Chg lo hi w w') (k : Chg lo hi w' w2) : Chg lo hi w w2 :=
  ⟨k.os.trans h.os, k.tape.trans h.tape, k.output.trans h.output, Nat.le_trans h.size k.size, fun j hj hr => (k.block j (Nat.lt_of_lt_of_le hj h.size) hr).trans (h.block j hj hr)⟩
theorem Chg.below (h : Below w.heap.size w w') : Chg lo hi w w' := ⟨h.os, h.tape, h.output, h.size, fun k hk _ => h.block k hk⟩
theorem Chg.grown {row : Option Nat} (hg : w.grownBy w' row) (hr : ∀ g, row = some g → lo ≤ g ∧ g < hi) : Chg lo hi w w' :=
  ⟨hg.os, hg.tape, hg.output, hg.size, fun k hk h => hg.block k hk (fun e => by have := hr k e.symm; omega)⟩
theorem Chg.blw (h : Chg lo hi w w') (hb : Below a.heap.size a w) (hl : a.heap.size ≤ lo) : Below a.heap.size a w' :=
  ⟨h.os.trans hb.os, h.tape.trans hb.tape, h.output.trans hb.output, Nat.le_trans hb.size h.size, fun k hk => (h.block k (Nat.lt_of_lt_of_le hk hb.size) (.inl (by omega))).trans (hb.block k hk)⟩
theorem Chg.cell (h : Chg lo hi w w') {b o : Nat} (hc : w.cell? ⟨b, o, none⟩ = some v) (hr : b < lo ∨ hi ≤ b) : w'.cell? ⟨b, o, none⟩ = some v := by
  rw [World.cell?_of_block (w := w) (h.block b (World.block_lt_of_cell? w _ hc) hr)]; exact hc
theorem ownsRow_chg {E : TypeId} {n : Nat} {zs : List Value} (h : Chg lo hi w w') (ho : w.ownsRow B E 1 v n zs) (hr : ∀ g, v.ownBlock = some g → g < lo ∨ hi ≤ g) : w'.ownsRow B E 1 v n zs := by
  refine ⟨ho.1, ?_⟩
  rcases ho.2 with h2 | ⟨g', cap', cur, rfl, h3, hh, h4⟩
  · exact .inl h2
  · exact .inr ⟨g', cap', cur, rfl, h3, by rw [h.block g' (Array.getElem?_eq_some_iff.1 hh).1 (hr g' rfl)]; exact hh, h4⟩
theorem OwnI.chg {g n cap : Nat} (h : Chg lo hi w w') (ho : OwnI w B g n cap xs) (hr : g < lo ∨ hi ≤ g) : OwnI w' B g n cap xs :=
  ownsRow_chg h ho (fun j hj => by have e : g = j := Option.some.inj hj; omega)
theorem FrI.chg (h : Chg lo hi w w') (ho : FrI w B v xs) (hr : hi ≤ B) : FrI w' B v xs := by
  obtain ⟨g, cap, rfl, ho⟩ := ho
  exact ⟨g, cap, rfl, OwnI.chg h ho (by have := ho.lt.1; omega)⟩
theorem OwI.chg (h : Chg lo hi w w') (ho : OwI w B v xs) (hr : ∀ g, v.ownBlock = some g → g < lo ∨ hi ≤ g) : OwI w' B v xs := by
  rcases ho with ho | ⟨g, cap, cap', rfl, ho⟩
  · exact .inl ho
  · exact .inr ⟨g, cap, cap', rfl, OwnI.chg h ho (hr g rfl)⟩
theorem FrR.chg {us : List Value} {xss : List (List Int)} (h : Chg lo hi w w') (ho : FrR w B v us xss) (hr : hi ≤ B) : FrR w' B v us xss := by
  obtain ⟨g0, cap0, e0, hB0, _⟩ := ho.lt
  obtain ⟨g, cap, rfl, h1, h2, h3, h4⟩ := ho
  cases e0
  exact ⟨g0, cap0, rfl, ownsRow_chg h h1 (fun j hj => by have e : g0 = j := Option.some.inj hj; omega), h2, fun j a b => (h3 j a b).chg h hr, h4⟩
theorem FrH.chg {X : Her} (h : Chg lo hi w w') (ho : FrH w B v X) (hr : hi ≤ B) : FrH w' B v X := by
  obtain ⟨d, u, us, rfl, h1, h2, h3⟩ := ho
  exact ⟨d, u, us, rfl, h1.chg h hr, h2.chg h hr, h3⟩
theorem OwH.chg {X : Her} (h : Chg lo hi w w') (ho : OwH w B v X) (hr : hi ≤ B) : OwH w' B v X := by
  rcases ho with ho | ho
  · exact .inl ho
  · exact .inr (ho.chg h hr)
end
/-! ### Marked rows -/
def sumL : List (List Int) → Nat
  | [] => 0
  | x :: xs => x.length + sumL xs
/-- Rows in blocks of their own between lo and hi, or nil. -/
structure RowsI (w : World) (lo hi : Nat) (us : List Value) (xss : List (List Int)) : Prop where
  len : us.length = xss.length
  rows : ∀ j (h : j < us.length) (h' : j < xss.length), OwI w lo us[j] xss[j]
  hib : ∀ z ∈ us, ∀ g, z.ownBlock = some g → g < hi
  pw : us.Pairwise fun a b => ∀ g, a.ownBlock = some g → b.ownBlock ≠ some g
end Go.Proofs.Ytmplpoccalccoaa
