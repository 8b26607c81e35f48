/- Texts joined for a claim: HcQ, HcR, HcT, HcK. -/
import Derived.Test.YtmplpoccalccoaaJax
import Derived.Test.YtmplpoccalccoaaTree
import Derived.Deep.DeepCutAuto
/-
  The adjoint.
-/
namespace Go.Proofs.Ytmplpoccalccoaa
open Go.RowKit

end Go.Proofs.Ytmplpoccalccoaa
/-
  The reference's adjoint.
-/
namespace Go.Proofs.Ytmplpoccalccoaa
open Go.RowKit

end Go.Proofs.Ytmplpoccalccoaa
/-
  Sums of matrices: the reference's.
-/
namespace Go.Proofs.Ytmplpoccalccoaa
open Go.RowKit

theorem isH_parts {p : Int} {n : Nat} {X : Her} (h : isH p n X = true) : X.dg.length = 3 ∧ Fp p X.dg ∧ X.up.length = 3 ∧ ∀ xs ∈ X.up, Ev p n xs := by
  unfold isH at h
  simp only [Bool.and_eq_true, decide_eq_true_eq, isL_fp, List.all_eq_true, isE_iff] at h
  exact ⟨h.1.1, h.1.2, h.2.1, h.2.2⟩
end Go.Proofs.Ytmplpoccalccoaa
/-
  The pairing of hermitian matrices.
-/
namespace Go.Proofs.Ytmplpoccalccoaa
open Go.RowKit

end Go.Proofs.Ytmplpoccalccoaa
