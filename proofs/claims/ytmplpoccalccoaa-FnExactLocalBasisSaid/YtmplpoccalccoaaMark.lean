/-
  Marks on rows of rows and on matrices, and what a mark leaves as it was.
-/
import Derived.Test.YtmplpoccalccoaaLawH
namespace Go.Proofs.Ytmplpoccalccoaa
open Go.RowKit

/-- Blocks from lo to hi may have changed, no others. -/
structure Chg (lo hi : Nat) (w w' : World) : Prop where
  os : w'.os = w.os
  tape : w'.tape = w.tape
  output : w'.output = w.output
  size : w.heap.size ≤ w'.heap.size
  block : ∀ k, k < w.heap.size → (k < lo ∨ hi ≤ k) → w'.heap[k]? = w.heap[k]?
section
variable {lo hi lo' hi' B : Nat} {a w w' w2 : World} {v : Value} {xs : List Int}
theorem Chg.refl : Chg lo hi w w := ⟨rfl, rfl, rfl, Nat.le_refl _, fun _ _ _ => rfl⟩
theorem Chg.trans (h : Chg lo hi w w') (k : Chg lo hi w' w2) : Chg lo hi w w2 :=
  ⟨k.os.trans h.os, k.tape.trans h.tape, k.output.trans h.output, Nat.le_trans h.size k.size, fun j hj hr => (k.block j (Nat.lt_of_lt_of_le hj h.size) hr).trans (h.block j hj hr)⟩
theorem Chg.wide (h : Chg lo hi w w') (h1 : lo' ≤ lo) (h2 : hi ≤ hi') : Chg lo' hi' w w' := ⟨h.os, h.tape, h.output, h.size, fun k hk hr => h.block k hk (by omega)⟩
theorem Chg.below (h : Below w.heap.size w w') : Chg lo hi w w' := ⟨h.os, h.tape, h.output, h.size, fun k hk _ => h.block k hk⟩
theorem Chg.grown {row : Option Nat} (hg : w.grownBy w' row) (hr : ∀ g, row = some g → lo ≤ g ∧ g < hi) : Chg lo hi w w' :=
  ⟨hg.os, hg.tape, hg.output, hg.size, fun k hk h => hg.block k hk (fun e => by have := hr k e.symm; omega)⟩
theorem Chg.blw (h : Chg lo hi w w') (hb : Below a.heap.size a w) (hl : a.heap.size ≤ lo) : Below a.heap.size a w' :=
  ⟨h.os.trans hb.os, h.tape.trans hb.tape, h.output.trans hb.output, Nat.le_trans hb.size h.size, fun k hk => (h.block k (Nat.lt_of_lt_of_le hk hb.size) (.inl (by omega))).trans (hb.block k hk)⟩
theorem Chg.cell (h : Chg lo hi w w') {b o : Nat} (hc : w.cell? ⟨b, o, none⟩ = some v) (hr : b < lo ∨ hi ≤ b) : w'.cell? ⟨b, o, none⟩ = some v := by
  rw [World.cell?_of_block (w := w) (h.block b (World.block_lt_of_cell? w _ hc) hr)]; exact hc
theorem ownsRow_chg {E : TypeId} {n : Nat} {zs : List Value} (h : Chg lo hi w w') (ho : w.ownsRow B E 1 v n zs) (hr : ∀ g, v.ownBlock = some g → g < lo ∨ hi ≤ g) : w'.ownsRow B E 1 v n zs := by
  refine ⟨ho.1, ?_⟩
  rcases ho.2 with h2 | ⟨g', cap', cur, rfl, h3, hh, h4⟩
  · exact .inl h2
  · exact .inr ⟨g', cap', cur, rfl, h3, by rw [h.block g' (Array.getElem?_eq_some_iff.1 hh).1 (hr g' rfl)]; exact hh, h4⟩
theorem OwnI.chg {g n cap : Nat} (h : Chg lo hi w w') (ho : OwnI w B g n cap xs) (hr : g < lo ∨ hi ≤ g) : OwnI w' B g n cap xs :=
  ownsRow_chg h ho (fun j hj => by have e : g = j := Option.some.inj hj; omega)
theorem FrI.chg (h : Chg lo hi w w') (ho : FrI w B v xs) (hr : hi ≤ B) : FrI w' B v xs := by
  obtain ⟨g, cap, rfl, ho⟩ := ho
  exact ⟨g, cap, rfl, OwnI.chg h ho (by have := ho.lt.1; omega)⟩
theorem OwI.chg (h : Chg lo hi w w') (ho : OwI w B v xs) (hr : ∀ g, v.ownBlock = some g → g < lo ∨ hi ≤ g) : OwI w' B v xs := by
  rcases ho with ho | ⟨g, cap, cap', rfl, ho⟩
  · exact .inl ho
  · exact .inr ⟨g, cap, cap', rfl, OwnI.chg h ho (hr g rfl)⟩
theorem FrR.chg {us : List Value} {xss : List (List Int)} (h : Chg lo hi w w') (ho : FrR w B v us xss) (hr : hi ≤ B) : FrR w' B v us xss := by
  obtain ⟨g0, cap0, e0, hB0, _⟩ := ho.lt
  obtain ⟨g, cap, rfl, h1, h2, h3, h4⟩ := ho
  cases e0
  exact ⟨g0, cap0, rfl, ownsRow_chg h h1 (fun j hj => by have e : g0 = j := Option.some.inj hj; omega), h2, fun j a b => (h3 j a b).chg h hr, h4⟩
theorem FrH.chg {X : Her} (h : Chg lo hi w w') (ho : FrH w B v X) (hr : hi ≤ B) : FrH w' B v X := by
  obtain ⟨d, u, us, rfl, h1, h2, h3⟩ := ho
  exact ⟨d, u, us, rfl, h1.chg h hr, h2.chg h hr, h3⟩
theorem OwH.chg {X : Her} (h : Chg lo hi w w') (ho : OwH w B v X) (hr : hi ≤ B) : OwH w' B v X := by
  rcases ho with ho | ho
  · exact .inl ho
  · exact .inr (ho.chg h hr)
end
/-! ### Marked rows -/
def sumL : List (List Int) → Nat
  | [] => 0
  | x :: xs => x.length + sumL xs
def cntR (k : Int) : List (List Int) → List (List Int)
  | [] => []
  | x :: xs => cnt k x.length :: cntR (k + x.length) xs
theorem cntR_len {k : Int} {xss : List (List Int)} : (cntR k xss).length = xss.length := by
  induction xss generalizing k with
  | nil => rfl
  | cons x xs ih => simp [cntR, ih]
theorem sumL_snoc {xss : List (List Int)} {x : List Int} : sumL (xss ++ [x]) = sumL xss + x.length := by
  induction xss with
  | nil => simp [sumL]
  | cons y ys ih => simp [sumL, ih]; omega
theorem cntR_snoc {k : Int} {xss : List (List Int)} {x : List Int} : cntR k (xss ++ [x]) = cntR k xss ++ [cnt (k + sumL xss) x.length] := by
  induction xss generalizing k with
  | nil => simp [cntR, sumL]
  | cons y ys ih =>
    simp only [List.cons_append, cntR, ih, sumL]
    rw [show k + (y.length : Int) + (sumL ys : Int) = k + ((y.length + sumL ys : Nat) : Int) by omega]
theorem sumL_take {xss : List (List Int)} {m : Nat} : sumL (xss.take m) ≤ sumL xss := by
  induction xss generalizing m with
  | nil => simp [sumL]
  | cons y ys ih => cases m <;> simp [sumL, ih]
/-- Rows in blocks of their own between lo and hi, or nil. -/
structure RowsI (w : World) (lo hi : Nat) (us : List Value) (xss : List (List Int)) : Prop where
  len : us.length = xss.length
  rows : ∀ j (h : j < us.length) (h' : j < xss.length), OwI w lo us[j] xss[j]
  hib : ∀ z ∈ us, ∀ g, z.ownBlock = some g → g < hi
  pw : us.Pairwise fun a b => ∀ g, a.ownBlock = some g → b.ownBlock ≠ some g
theorem RowsI.mark {w w' : World} {lo hi : Nat} {us : List Value} {xss : List (List Int)} (h : RowsI w lo hi us xss) {m : Nat} (hm : m < us.length) {ys : List Int} (hy : OwI w' lo us[m] ys) (hg : w.grownBy w' us[m].ownBlock) : RowsI w' lo hi us (xss.set m ys) := by
  refine ⟨by simp [h.len], fun j h1 h2 => ?_, h.hib, h.pw⟩
  have hl := h.len
  by_cases e : j = m
  · subst e; simpa using hy
  · have hk := h.rows j h1 (by omega)
    rw [List.getElem_set_ne (by omega)]
    rcases hk with hk | ⟨g, cap, cap', e1, hk⟩
    · exact .inl hk
    · refine .inr ⟨g, cap, cap', e1, hk.grown hg (fun e2 => ?_)⟩
      have e3 : us[j].ownBlock = some g := by rw [e1]; rfl
      rcases Nat.lt_or_gt_of_ne e with h3 | h3
      · exact List.pairwise_iff_getElem.1 h.pw j m h1 hm h3 g e3 e2.symm
      · exact List.pairwise_iff_getElem.1 h.pw m j hm h1 h3 g e2.symm e3
theorem mark_step {k : Int} {xss : List (List Int)} {m : Nat} (hm : m < xss.length) : (cntR k (xss.take m) ++ xss.drop m).set m (cnt (k + sumL (xss.take m)) xss[m].length) = cntR k (xss.take (m + 1)) ++ xss.drop (m + 1) ∧ sumL (xss.take (m + 1)) = sumL (xss.take m) + xss[m].length := by
  have hl : (cntR k (xss.take m)).length = m := by rw [cntR_len, List.length_take]; omega
  refine ⟨?_, ?_⟩
  · rw [List.set_append_right _ _ (by omega), hl, Nat.sub_self, List.drop_eq_getElem_cons hm, List.set_cons_zero, List.take_succ_eq_append_getElem hm, cntR_snoc]
    simp
  · rw [List.take_succ_eq_append_getElem hm, sumL_snoc]
end Go.Proofs.Ytmplpoccalccoaa
