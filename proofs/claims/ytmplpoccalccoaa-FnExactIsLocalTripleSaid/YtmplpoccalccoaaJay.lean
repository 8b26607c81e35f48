/- Texts joined for a claim: HcD, HcF, HcG, HcI, HcJ, Tree, HcQ, HcR, HcT, HcK, HcU. -/
import Derived.Test.YtmplpoccalccoaaJau
import Derived.Test.YtmplpoccalccoaaHcE
import Derived.Test.YtmplpoccalccoaaJaw
import Derived.Test.YtmplpoccalccoaaFlow
import Derived.Deep.DeepCutAuto
import Derived.Test.YtmplpoccalccoaaHcS
/-
  Determinants of hermitian matrices.
-/
namespace Go.Proofs.Ytmplpoccalccoaa
open Go.RowKit

end Go.Proofs.Ytmplpoccalccoaa
/-
  Entries of hermitian matrices and of their products.
-/
namespace Go.Proofs.Ytmplpoccalccoaa
open Go.RowKit

theorem Ev.plus {p k : Int} {n : Nat} {xs ys : List Int} (hp : 1 ≤ p) (h : Ev p n xs) (h' : Ev p n ys) : Ev p n (plusL p xs ys k) := ⟨by rw [plusL_len (by rw [h.1, h'.1])]; exact h.1, plusL_fp hp⟩
theorem Ev.scale {p k : Int} {n : Nat} {xs : List Int} (hp : 1 ≤ p) (h : Ev p n xs) : Ev p n (scaleL p xs k) := ⟨by rw [scaleL_len]; exact h.1, scaleL_fp hp⟩
theorem Ev.zero {p : Int} {n : Nat} (hp : 1 ≤ p) : Ev p n (List.replicate n 0) := ⟨List.length_replicate, fun x hx => by have := List.eq_of_mem_replicate hx; omega⟩
theorem Ev.one {p : Int} {n i : Nat} (hp : 2 ≤ p) : Ev p n (oneL n i) := ⟨oneL_len, oneL_fp hp⟩
end Go.Proofs.Ytmplpoccalccoaa
/-
  Entries of products of hermitian matrices.
-/
namespace Go.Proofs.Ytmplpoccalccoaa
open Go.RowKit

end Go.Proofs.Ytmplpoccalccoaa
/-
  Jordan products.
-/
namespace Go.Proofs.Ytmplpoccalccoaa
open Go.RowKit

end Go.Proofs.Ytmplpoccalccoaa
/-
  The reference's Jordan product, and the pairing.
-/
namespace Go.Proofs.Ytmplpoccalccoaa
open Go.RowKit

end Go.Proofs.Ytmplpoccalccoaa
/-
  A region that draws its order, where at some steps one of two operations may come up: a tree of orders. Plain lemmas over any program.
-/
namespace Go.Proofs.Ytmplpoccalccoaa
open Go.RowKit

section
variable {P : Program} {ops : Array Oper}
end
end Go.Proofs.Ytmplpoccalccoaa
/-
  The adjoint.
-/
namespace Go.Proofs.Ytmplpoccalccoaa
open Go.RowKit

end Go.Proofs.Ytmplpoccalccoaa
/-
  The reference's adjoint.
-/
namespace Go.Proofs.Ytmplpoccalccoaa
open Go.RowKit

end Go.Proofs.Ytmplpoccalccoaa
/-
  Sums of matrices: the reference's.
-/
namespace Go.Proofs.Ytmplpoccalccoaa
open Go.RowKit

end Go.Proofs.Ytmplpoccalccoaa
/-
  The pairing of hermitian matrices.
-/
namespace Go.Proofs.Ytmplpoccalccoaa
open Go.RowKit

end Go.Proofs.Ytmplpoccalccoaa
/-
  First places other than 0, rows and matrices of zeros, equality of rows.
-/
namespace Go.Proofs.Ytmplpoccalccoaa
open Go.RowKit

def leadN : List Int → Nat
  | [] => 0
  | x :: xs => if x = 0 then leadN xs + 1 else 0
end Go.Proofs.Ytmplpoccalccoaa
