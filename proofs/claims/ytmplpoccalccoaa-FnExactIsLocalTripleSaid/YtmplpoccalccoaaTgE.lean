/-
  Global triples: what is told, and the contracts of the program's function and of the reference's.
-/
import Derived.Test.YtmplpoccalccoaaTgB
import Derived.Test.YtmplpoccalccoaaTgD
namespace Go.Proofs.Ytmplpoccalccoaa
open Go.RowKit

def all3 (n : Nat) (g : Nat → Nat → Nat → Bool) : Bool := (List.range n).all fun i => (List.range n).all fun j => (List.range n).all (g i j)
theorem all3_no {n i j k : Nat} {g : Nat → Nat → Nat → Bool} (hi : i < n) (hj : j < n) (hk : k < n) (h : g i j k = false) : all3 n g = false :=
  List.all_eq_false.2 ⟨i, List.mem_range.2 hi, by rw [all2_no hj hk h]; decide⟩
theorem chkT_ok {p : Int} {st : List Int} {A B C : List (List Int)} (h : chkT p st [A, B, C] = 0) : Dok p st ∧ matB p (sz st.length) A = true ∧ matB p (sz st.length) B = true ∧ matB p (sz st.length) C = true := by
  unfold chkT at h
  split at h
  · rename_i h0
    split at h
    · rename_i h1
      simp at h1
      exact ⟨chk3_dok h0, h1.1, h1.2.1, h1.2.2⟩
    · exact absurd h (by decide)
  · rename_i h0; exact absurd h h0
theorem bne_not {a b : Int} {q : Bool} (h : q = (a == b)) : (a != b) = !q := by rw [h]; rfl
end Go.Proofs.Ytmplpoccalccoaa
