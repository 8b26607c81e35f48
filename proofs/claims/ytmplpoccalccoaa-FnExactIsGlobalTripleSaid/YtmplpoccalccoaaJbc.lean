/- Texts joined for a claim: Aut, MeA. -/
import Derived.Test.YtmplpoccalccoaaTriB
import Derived.Test.YtmplpoccalccoaaLinC
import Derived.Test.YtmplpoccalccoaaJay
/-
  Automorphisms: the program's test and the reference's are the same. No program in sight.
-/
namespace Go.Proofs.Ytmplpoccalccoaa

end Go.Proofs.Ytmplpoccalccoaa
/-
  MapEntries: what it computes. No program in sight.
-/
namespace Go.Proofs.Ytmplpoccalccoaa

def tabB (p : Int) (M : List (List Int)) : Bool := decide (M.length ≤ 16) && M.all fun r => decide (r.length = (M.getD 0 []).length) && decide (1 ≤ r.length) && decide (r.length ≤ 16) && isL p r
def matP (p : Int) (n : Nat) (M : List (List Int)) : Bool := decide (0 < M.length) && tabB p M && decide (M.length = n) && decide ((M.getD 0 []).length = n)
theorem matP_eq {p : Int} {n : Nat} {M : List (List Int)} (h1 : 1 ≤ n) (h2 : n ≤ 16) : matP p n M = matB p n M := by
  rw [Bool.eq_iff_iff, matB_iff]
  unfold matP tabB Ev
  simp only [Bool.and_eq_true, decide_eq_true_eq, List.all_eq_true, isL_fp]
  constructor
  · rintro ⟨⟨⟨_, _, hall⟩, hl⟩, h0⟩
    exact ⟨hl, fun r hr => ⟨(hall r hr).1.1.1.trans h0, (hall r hr).2⟩⟩
  · rintro ⟨hl, h⟩
    have e0 := (h _ (get_mem (B := M) (i := 0) (by omega))).1
    exact ⟨⟨⟨by omega, by omega, fun r hr => ⟨⟨⟨(h r hr).1.trans e0.symm, by have := (h r hr).1; omega⟩, by have := (h r hr).1; omega⟩, (h r hr).2⟩⟩, hl⟩, e0⟩
end Go.Proofs.Ytmplpoccalccoaa
