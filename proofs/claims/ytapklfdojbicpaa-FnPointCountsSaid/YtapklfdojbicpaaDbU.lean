/-
  The reference's norm and cyclic form.
-/
import Derived.Test.YtapklfdojbicpaaDbT
namespace Go.Proofs.Ytapklfdojbicpaa
open Go.RowKit

def diagF (p : Int) (st : List Int) : List Int := diagR p st.reverse
theorem diagF_snoc {p g : Int} {st : List Int} : diagF p (st ++ [g]) = diagF p st ++ scaleL p (diagF p st) (p - g) := by
  unfold diagF
  rw [List.reverse_append, List.reverse_singleton, List.singleton_append]; rfl
theorem diagF_len {p : Int} {st : List Int} : (diagF p st).length = sz st.length := by unfold diagF; rw [diagR_len, List.length_reverse]; rfl
theorem diagF_fp {p : Int} {st : List Int} (hp : 2 ≤ p) : Fp p (diagF p st) := diagR_fp hp
theorem dotD_take {d x : List Int} {k : Nat} (h1 : k < d.length) (h2 : k < x.length) : dotD (d.take (k + 1)) (x.take (k + 1)) (x.take (k + 1)) = dotD (d.take k) (x.take k) (x.take k) + d.getD k 0 * x.getD k 0 * x.getD k 0 := by
  rw [List.take_succ_eq_append_getElem h1, List.take_succ_eq_append_getElem h2, dotD_app (by simp; omega) (by simp; omega)]
  simp [dotD, h1, h2]
end Go.Proofs.Ytapklfdojbicpaa
