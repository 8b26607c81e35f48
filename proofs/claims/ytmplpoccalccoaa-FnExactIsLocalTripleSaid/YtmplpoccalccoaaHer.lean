/-
  Hermitian matrices as rows of numbers: the plain functions that the program and the reference compute. No program in sight.
-/
import Derived.Test.YtmplpoccalccoaaDbl
import Derived.Test.YtmplpoccalccoaaMem
namespace Go.Proofs.Ytmplpoccalccoaa

def Her.d (X : Her) (i : Nat) : Int := X.dg.getD i 0
def Her.r (X : Her) (i : Nat) : List Int := X.up.getD i []
/-- An element of the basis. -/
def oneL (n i : Nat) : List Int := (List.replicate n 0).set i 1
/-- The code of a doubling with at most three steps, and elements. -/
def chk3 (p : Int) (st : List Int) (xss : List (List Int)) : Int :=
  if isD p st = true then (if 3 < st.length then 3 else if xss.all (isE p (sz st.length)) = true then 0 else 2) else 1
end Go.Proofs.Ytmplpoccalccoaa
