/-
  Sums of matrices: the reference's.
-/
import Derived.Test.YtapklfdojbicpaaHcS
import Derived.Test.YtapklfdojbicpaaHcR
namespace Go.Proofs.Ytapklfdojbicpaa
open Go.RowKit

def sumR (p : Int) (xss : List (List Int)) (k : Int) (yss : List (List Int)) : List (List Int) := List.zipWith (fun x y => plusL p x y k) xss yss
theorem sumR_take {p k : Int} : ∀ {xss yss : List (List Int)} {m : Nat} (h : m < xss.length) (h' : m < yss.length), sumR p (xss.take (m + 1)) k (yss.take (m + 1)) = sumR p (xss.take m) k (yss.take m) ++ [plusL p xss[m] yss[m] k]
  | x :: xs, y :: ys, 0, _, _ => rfl
  | x :: xs, y :: ys, m + 1, h, h' => by
    have := sumR_take (p := p) (k := k) (xss := xs) (yss := ys) (m := m) (by simpa using h) (by simpa using h')
    simp only [sumR, List.take_succ_cons, List.zipWith_cons_cons, List.getElem_cons_succ] at this ⊢
    rw [this]; rfl
theorem sumH_eq {p k : Int} {n : Nat} {X Y : Her} (h : isH p n X = true) (h' : isH p n Y = true) : sumH p X k Y = ⟨plusL p X.dg Y.dg k, sumR p X.up k Y.up⟩ := by
  obtain ⟨a, b, c, u, v, t, rfl, _⟩ := isH_op h
  obtain ⟨a', b', c', u', v', t', rfl, _⟩ := isH_op h'
  rfl
theorem isH_parts {p : Int} {n : Nat} {X : Her} (h : isH p n X = true) : X.dg.length = 3 ∧ Fp p X.dg ∧ X.up.length = 3 ∧ ∀ xs ∈ X.up, Ev p n xs := by
  unfold isH at h
  simp only [Bool.and_eq_true, decide_eq_true_eq, isL_fp, List.all_eq_true, isE_iff] at h
  exact ⟨h.1.1, h.1.2, h.2.1, h.2.2⟩
end Go.Proofs.Ytapklfdojbicpaa
