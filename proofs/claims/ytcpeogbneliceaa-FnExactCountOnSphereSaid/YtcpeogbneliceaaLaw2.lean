/-
  What the walks of the laws share.
-/
import Derived.Test.YtcpeogbneliceaaCode
namespace Go.Proofs.Ytcpeogbneliceaa
open Go.RowKit

theorem farc {w w' : World} {row : Option Nat} (hg : w.grownBy w' row) {b o : Nat} {v : Value} (h : w.cell? ⟨b, o, none⟩ = some v) (hne : some b ≠ row) : w'.cell? ⟨b, o, none⟩ = some v :=
  hg.cell h hne
theorem cnt_bd {left : Int} {n : Nat} (h : ¬ szI left n < 0) : (n : Int) ≤ left := by unfold szI at h; split at h <;> omega
theorem eqs_c {x y : Value} {xs : List Int} {w : World} (hx : Sl w x xs) (hy : Sl w y xs) (hm : xs.length ≤ 1048576) :
    Calls Try.prog 19 #[x, y] w fun e w' => e = .returned (.bool true) ∧ Below w.heap.size w w' := by
  have h := eq_c hx hy hm
  rwa [decide_eq_true rfl] at h
theorem eqsps_c {p : Int} {x y : Value} {xs : List Int} {w : World} (hx : Sl w x xs) (hy : Sl w y xs) (hm : xs.length ≤ 1048576) :
    Calls Try.prog 20 #[.agg #[.int .i64 p, x], .agg #[.int .i64 p, y]] w fun e w' => e = .returned (.bool true) ∧ Below w.heap.size w w' := by
  have h := eqsp_c (p := p) (q := p) hx hy hm
  rwa [decide_eq_true rfl, decide_eq_true rfl] at h
end Go.Proofs.Ytcpeogbneliceaa
