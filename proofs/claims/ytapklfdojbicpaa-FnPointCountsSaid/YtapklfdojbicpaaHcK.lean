/-
  The pairing of hermitian matrices.
-/
import Derived.Test.YtapklfdojbicpaaHcJ
namespace Go.Proofs.Ytapklfdojbicpaa
open Go.RowKit

theorem jordanH_is {p : Int} {st : List Int} {X Y : Her} (hp : 2 ≤ p) (hX : isH p (sz st.length) X = true) (hY : isH p (sz st.length) Y = true) : isH p (sz st.length) (jordanH p st X Y) = true :=
  isH_mk ((halfH_ev hp hX hY (i := 0) (j := 0) (by omega) (by omega)).2.g0 (by omega) 0) ((halfH_ev hp hX hY (i := 1) (j := 1) (by omega) (by omega)).2.g0 (by omega) 0) ((halfH_ev hp hX hY (i := 2) (j := 2) (by omega) (by omega)).2.g0 (by omega) 0)
    (halfH_ev hp hX hY (by omega) (by omega)) (halfH_ev hp hX hY (by omega) (by omega)) (halfH_ev hp hX hY (by omega) (by omega))
def pairH (p : Int) (st : List Int) (X Y : Her) : Int := traceH p (jordanH p st X Y)
end Go.Proofs.Ytapklfdojbicpaa
