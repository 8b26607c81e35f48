/-
  Reduced rows by the program: the walk.
-/
import Derived.Test.YtmplpoccalccoaaLinF
namespace Go.Proofs.Ytmplpoccalccoaa
open Go.RowKit

theorem RowsF.part {w : World} {B g n cap : Nat} {us : List Value} {A C : List (List Int)} (hr : RowsF w B us (A ++ C)) (ho : OwV w B (.slice (some ⟨g, 0, none⟩) n cap) us) : Re w (.slice (some ⟨g, 0, none⟩) A.length cap) A := by
  obtain ⟨cur, _, _, _, hl, hn, hm, _⟩ := ho.row
  have h1 := hr.1
  rw [List.length_append] at h1
  simp only [maxLen] at hm
  refine ⟨_, cap, rfl, by omega, by omega, .inr ⟨g, 0, rfl, fun j hj => ⟨us[j]'(by omega), ?_, ?_⟩⟩⟩
  · rw [Nat.zero_add]; exact ho.cell (by omega)
  · have := hr.2 j (by omega) (by rw [List.length_append]; omega)
    rw [List.getElem_append_left hj] at this
    exact this.el
end Go.Proofs.Ytmplpoccalccoaa
