/-
  The adjoint.
-/
import Derived.Test.YtacfanjejaellaaGreatHcD
import Derived.Test.YtacfanjejaellaaGreatHcJ
import Derived.Test.YtacfanjejaellaaGreatJar
import Derived.Deep.DeepCutAuto
namespace Go.Proofs.YtacfanjejaellaaGreat
open Go.RowKit

def adgS (p : Int) (st : List Int) (X : Her) : Nat → List Int
  | 0 => []
  | k + 1 => adgS p st X k ++ [(X.d ((k + 1) % 3) * X.d ((k + 2) % 3) - normL p st (X.r k)) % p]
def aupS (p : Int) (st : List Int) (X : Her) : Nat → List (List Int)
  | 0 => []
  | k + 1 => aupS p st X k ++ [plusL p (conjL p (mulL p st (X.r ((k + 1) % 3)) (X.r ((k + 2) % 3)))) (X.r k) (-X.d k)]
theorem adjH_eq {p : Int} {st : List Int} {X : Her} : adjH p st X = ⟨adgS p st X 3, aupS p st X 3⟩ := rfl
theorem adgS_len {p : Int} {st : List Int} {X : Her} : ∀ k, (adgS p st X k).length = k
  | 0 => rfl
  | k + 1 => by unfold adgS; rw [List.length_append, adgS_len k]; rfl
theorem aupS_len {p : Int} {st : List Int} {X : Her} : ∀ k, (aupS p st X k).length = k
  | 0 => rfl
  | k + 1 => by unfold aupS; rw [List.length_append, aupS_len k]; rfl
theorem adjH_is {p : Int} {st : List Int} {X : Her} (hp : 2 ≤ p) (hX : isH p (sz st.length) X = true) : isH p (sz st.length) (adjH p st X) = true := by
  obtain ⟨a, b, c, u, v, t, rfl, _, _, _, _, _, _, eu, ev, et⟩ := isH_op hX
  exact isH_mk (mod_fp (by omega)) (mod_fp (by omega)) (mod_fp (by omega)) (Ev.plus (by omega) ((mulL_ev (by omega) ev et).conj (by omega)) eu) (Ev.plus (by omega) ((mulL_ev (by omega) et eu).conj (by omega)) ev) (Ev.plus (by omega) ((mulL_ev (by omega) eu ev).conj (by omega)) et)
theorem min_scale {p k : Int} {xs ys : List Int} : plusL p xs (scaleL p ys k) (p - 1) = plusL p xs ys (-k) := by
  rw [zw_scale2]
  refine plusL_cong ?_
  rw [show k * (p - 1) = -k + p * k by grind, Int.add_mul_emod_self_left]
end Go.Proofs.YtacfanjejaellaaGreat
