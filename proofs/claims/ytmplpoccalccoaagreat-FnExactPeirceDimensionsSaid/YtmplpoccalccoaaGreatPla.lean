/-
  Rows of numbers by their places; rows that are 0 but at one place; products of elements of the basis. No program in sight.
-/
import Derived.Test.YtmplpoccalccoaaGreatJag
namespace Go.Proofs.YtmplpoccalccoaaGreat

section
variable {p k : Int} {xs ys : List Int}
theorem plus_at (h : ys.length = xs.length) (j : Nat) : (plusL p xs ys k).getD j 0 = (xs.getD j 0 + k * ys.getD j 0) % p := by
  unfold plusL
  simp only [List.getD_eq_getElem?_getD, List.getElem?_zipWith]
  by_cases hj : j < xs.length
  · rw [List.getElem?_eq_getElem hj, List.getElem?_eq_getElem (h ▸ hj)]; rfl
  · rw [List.getElem?_eq_none (by omega), List.getElem?_eq_none (by omega)]; simp
theorem scale_at (j : Nat) : (scaleL p xs k).getD j 0 = xs.getD j 0 * k % p := by
  unfold scaleL
  simp only [List.getD_eq_getElem?_getD, List.getElem?_map]
  cases xs[j]? <;> simp
theorem take_at (h j : Nat) : (xs.take h).getD j 0 = if j < h then xs.getD j 0 else 0 := by
  simp only [List.getD_eq_getElem?_getD, List.getElem?_take]
  split <;> simp
theorem drop_at (h j : Nat) : (xs.drop h).getD j 0 = xs.getD (h + j) 0 := by
  simp only [List.getD_eq_getElem?_getD, List.getElem?_drop]
theorem app_at (j : Nat) : (xs ++ ys).getD j 0 = if j < xs.length then xs.getD j 0 else ys.getD (j - xs.length) 0 := by
  simp only [List.getD_eq_getElem?_getD, List.getElem?_append]
  split <;> rfl
theorem conj_at (j : Nat) : (conjL p xs).getD j 0 = if j = 0 then xs.getD 0 0 else xs.getD j 0 * -1 % p := by
  match xs, j with
  | [], j => simp [conjL, scaleL]
  | x :: xs, 0 => simp [conjL]
  | x :: xs, j + 1 =>
    have := scale_at (p := p) (k := -1) (xs := xs) j
    simpa [conjL] using this
theorem ext_at (h : xs.length = ys.length) (e : ∀ j, j < xs.length → xs.getD j 0 = ys.getD j 0) : xs = ys := by
  refine List.ext_getElem h fun j h1 h2 => ?_
  have := e j h1
  simpa [List.getD_eq_getElem?_getD, List.getElem?_eq_getElem h1, List.getElem?_eq_getElem h2] using this
theorem out_at {j : Nat} (h : xs.length ≤ j) : xs.getD j 0 = 0 := by
  rw [List.getD_eq_getElem?_getD, List.getElem?_eq_none h]; rfl
end
/-- Rows of zeros; rows that are 0 but at place i. -/
def Zr (xs : List Int) : Prop := ∀ j, xs.getD j 0 = 0
def Sup (i : Nat) (xs : List Int) : Prop := ∀ j, j ≠ i → xs.getD j 0 = 0
section
variable {p k : Int} {xs ys : List Int} {i h : Nat}
theorem Zr.plus (z : Zr xs) (z2 : Zr ys) (l : ys.length = xs.length) : Zr (plusL p xs ys k) := fun j => by rw [plus_at l, z j, z2 j]; simp
theorem Sup.plus (z : Sup i xs) (z2 : Sup i ys) (l : ys.length = xs.length) : Sup i (plusL p xs ys k) := fun j hj => by rw [plus_at l, z j hj, z2 j hj]; simp
theorem Zr.conj (z : Zr xs) : Zr (conjL p xs) := fun j => by
  rw [conj_at]
  split
  · exact z 0
  · rw [z j]; simp
theorem Sup.conj (z : Sup i xs) : Sup i (conjL p xs) := fun j hj => by
  rw [conj_at]
  split
  · next e => exact z 0 (e ▸ hj)
  · rw [z j hj]; simp
theorem Zr.take (z : Zr xs) (h : Nat) : Zr (xs.take h) := fun j => by rw [take_at]; split <;> first | exact z j | exact rfl
theorem Zr.drop (z : Zr xs) (h : Nat) : Zr (xs.drop h) := fun j => by rw [drop_at]; exact z _
theorem Sup.take (z : Sup i xs) (h : Nat) : Sup i (xs.take h) := fun j hj => by rw [take_at]; split <;> first | exact z j hj | exact rfl
theorem Sup.drop (z : Sup i xs) (hk : h ≤ i) : Sup (i - h) (xs.drop h) := fun j hj => by rw [drop_at]; exact z _ (by omega)
theorem Zr.app (z : Zr xs) (z2 : Zr ys) : Zr (xs ++ ys) := fun j => by rw [app_at]; split <;> first | exact z j | exact z2 _
end
end Go.Proofs.YtmplpoccalccoaaGreat
