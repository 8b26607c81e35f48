/-
  Peirce parts and primitive idempotents: plain functions; lists of three matrices.
-/
import Derived.Test.YtbllhcceakhhnaaHdA
namespace Go.Proofs.Ytbllhcceakhhnaa
open Go.RowKit

def wholeH (p : Int) (st : List Int) (E X : Her) : Her := sumH p (multH p (jordanH p st E (jordanH p st E X)) 2) (-1) (jordanH p st E X)
def halfP (p : Int) (st : List Int) (E X : Her) : Her := multH p (sumH p (jordanH p st E X) (-1) (jordanH p st E (jordanH p st E X))) 4
def peirH (p : Int) (st : List Int) (E X : Her) (k : Int) : Her := if k = 2 then wholeH p st E X else if k = 1 then halfP p st E X else sumH p (sumH p X (-1) (wholeH p st E X)) (-1) (halfP p st E X)
def primH (p : Int) (st : List Int) (E : Her) : Bool := idemH p st E && (decide (rankH p st E = 1) && decide (traceH p E = 1))
section
variable {p : Int} {st : List Int} {E X Y Z : Her}
theorem wholeH_is (hp : 2 ≤ p) (hE : isH p (sz st.length) E = true) (hX : isH p (sz st.length) X = true) : isH p (sz st.length) (wholeH p st E X) = true :=
  sumH_is (by omega) (multH_is (by omega) (jordanH_is hp hE (jordanH_is hp hE hX))) (jordanH_is hp hE hX)
theorem halfP_is (hp : 2 ≤ p) (hE : isH p (sz st.length) E = true) (hX : isH p (sz st.length) X = true) : isH p (sz st.length) (halfP p st E X) = true :=
  multH_is (by omega) (sumH_is (by omega) (jordanH_is hp hE hX) (jordanH_is hp hE (jordanH_is hp hE hX)))
theorem peirH_is {k : Int} (hp : 2 ≤ p) (hE : isH p (sz st.length) E = true) (hX : isH p (sz st.length) X = true) : isH p (sz st.length) (peirH p st E X k) = true := by
  unfold peirH
  split
  · exact wholeH_is hp hE hX
  · split
    · exact halfP_is hp hE hX
    · exact sumH_is (by omega) (sumH_is (by omega) hX (wholeH_is hp hE hX)) (halfP_is hp hE hX)
theorem plus_swap : ∀ xs ys zs : List Int, plusL p (plusL p xs ys (-1)) zs (-1) = plusL p (plusL p xs zs (-1)) ys (-1)
  | [], _, _ => by simp [plusL]
  | _ :: _, [], zs => by cases zs <;> simp [plusL]
  | _ :: _, _ :: _, [] => by simp [plusL]
  | x :: xs, y :: ys, z :: zs => by
    have ih := plus_swap xs ys zs
    unfold plusL at ih ⊢
    simp only [List.zipWith_cons_cons, ih, Int.emod_add_emod]
    rw [show x + -1 * y + -1 * z = x + -1 * z + -1 * y by omega]
theorem sumH_swap : sumH p (sumH p X (-1) Y) (-1) Z = sumH p (sumH p X (-1) Z) (-1) Y := by
  unfold sumH Her.r
  simp only [plus_swap, List.getD_cons_zero, List.getD_cons_succ]
theorem sumH_neg2 : sumH p X (p - 2) Y = sumH p X (-2) Y := by
  have h : ∀ xs ys : List Int, plusL p xs ys (p - 2) = plusL p xs ys (-2) := fun xs ys => plusL_cong (by
    rw [show p - 2 = -2 + p * 1 by omega, Int.add_mul_emod_self_left])
  unfold sumH
  simp only [h]
theorem multH_mod {k : Int} : multH p X (k % p) = multH p X k := by
  have h : ∀ xs : List Int, scaleL p xs (k % p) = scaleL p xs k := fun xs => by
    unfold scaleL
    exact List.map_congr_left fun x _ => by rw [Int.mul_emod, Int.emod_emod_of_dvd _ (Int.dvd_refl p), ← Int.mul_emod]
  unfold multH
  simp only [h]
end
theorem Lh.three {w : World} {d u d' u' d2 u2 : Value} {X Y Z : Her} {b c : Nat} (h : Hv w (.agg #[d, u]) X) (h0 : w.cell? ⟨b, 0, none⟩ = some d) (h1 : w.cell? ⟨b, 1, none⟩ = some u)
    (k : Hv w (.agg #[d', u']) Y) (h2 : w.cell? ⟨b, 2, none⟩ = some d') (h3 : w.cell? ⟨b, 3, none⟩ = some u') (l : Hv w (.agg #[d2, u2]) Z) (h4 : w.cell? ⟨b, 4, none⟩ = some d2) (h5 : w.cell? ⟨b, 5, none⟩ = some u2) : Lh w (.slice (some ⟨b, 0, none⟩) 3 c) [X, Y, Z] := by
  refine ⟨_, c, rfl, .inr ⟨b, 0, rfl, fun j hj => ?_⟩⟩
  simp at hj
  rcases (show j = 0 ∨ j = 1 ∨ j = 2 by omega) with rfl | rfl | rfl
  · exact ⟨d, u, h0, h1, h⟩
  · exact ⟨d', u', h2, h3, k⟩
  · exact ⟨d2, u2, h4, h5, l⟩
end Go.Proofs.Ytbllhcceakhhnaa
