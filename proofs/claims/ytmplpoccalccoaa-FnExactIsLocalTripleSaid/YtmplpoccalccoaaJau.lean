/- Texts joined for a claim: HcA, HcB, HcC. -/
import Derived.Test.YtmplpoccalccoaaDbU
/-
  The checks of hermitian matrices: the program's.
-/
namespace Go.Proofs.Ytmplpoccalccoaa
open Go.RowKit

/-- The rows of a matrix are not too long. -/
structure Hsz (X : Her) : Prop where
  h1 : X.dg.length ≤ 1048576
  h2 : X.up.length ≤ 1048576
  h3 : ∀ xs ∈ X.up, xs.length ≤ 1048576
/-- A list of hermitian matrices. -/
def Lh (w : World) (v : Value) (l : List Her) : Prop :=
  ∃ a c, v = .slice a l.length c ∧ (l = [] ∨ ∃ b off, a = some ⟨b, off, none⟩ ∧ ∀ j (h : j < l.length), ∃ d u, w.cell? ⟨b, off + j * 2, none⟩ = some d ∧ w.cell? ⟨b, off + j * 2 + 1, none⟩ = some u ∧ Hv w (.agg #[d, u]) l[j])
theorem Lh.below {w w' : World} {v : Value} {l : List Her} (h : Lh w v l) (hb : Below w.heap.size w w') : Lh w' v l := by
  obtain ⟨a, c, rfl, h⟩ := h
  refine ⟨a, c, rfl, ?_⟩
  rcases h with h | ⟨b, off, ha, h⟩
  · exact .inl h
  · refine .inr ⟨b, off, ha, fun j hj => ?_⟩
    obtain ⟨d, u, h1, h2, h3⟩ := h j hj
    exact ⟨d, u, kept hb h1, kept hb h2, h3.below hb⟩
theorem Lh.get {w : World} {b off : Nat} {l : List Her} (h : ∀ j (h : j < l.length), ∃ d u, w.cell? ⟨b, off + j * 2, none⟩ = some d ∧ w.cell? ⟨b, off + j * 2 + 1, none⟩ = some u ∧ Hv w (.agg #[d, u]) l[j]) {m : Nat} (hm : m < l.length) :
    ∃ d u X, X ∈ l ∧ w.cell? ⟨b, off + m * 2, none⟩ = some d ∧ w.cell? ⟨b, off + m * 2 + 1, none⟩ = some u ∧ Hv w (.agg #[d, u]) X ∧ l.take (m + 1) = l.take m ++ [X] := by
  obtain ⟨d, u, h1, h2, h3⟩ := h m hm
  exact ⟨d, u, l[m], List.getElem_mem hm, h1, h2, h3, List.take_succ_eq_append_getElem hm⟩
theorem Lh.one {w : World} {d u : Value} {X : Her} {b c : Nat} (h : Hv w (.agg #[d, u]) X) (h0 : w.cell? ⟨b, 0, none⟩ = some d) (h1 : w.cell? ⟨b, 1, none⟩ = some u) : Lh w (.slice (some ⟨b, 0, none⟩) 1 c) [X] := by
  refine ⟨_, c, rfl, .inr ⟨b, 0, rfl, fun j hj => ?_⟩⟩
  obtain rfl : j = 0 := by simpa using hj
  exact ⟨d, u, h0, h1, h⟩
theorem chk3_dok {p : Int} {st : List Int} (h : chk3 p st [] = 0) : Dok p st := by
  unfold chk3 at h
  split at h
  · rename_i h1
    split at h
    · cases h
    · exact Dok.of h1 (by assumption)
  · cases h
end Go.Proofs.Ytmplpoccalccoaa
/-
  The reference's checks of hermitian matrices.
-/
namespace Go.Proofs.Ytmplpoccalccoaa
open Go.RowKit

end Go.Proofs.Ytmplpoccalccoaa
/-
  Hermitian matrices by their parts; traces and determinants.
-/
namespace Go.Proofs.Ytmplpoccalccoaa
open Go.RowKit

end Go.Proofs.Ytmplpoccalccoaa
