/-
  What the last step of each claim over hermitian matrices shares: reading rows, and rows of rows.
-/
import Derived.Test.YtmplpoccalccoaaLawH
import Derived.ProofKit
import Derived.OpenShut
import Derived.ShutString
import Derived.ChangeOld
import Derived.Below
import Derived.Lib.SmallJoins
import Derived.Deep.Matrix
namespace Go.Proofs.Ytmplpoccalccoaa
open Go.ChangeShapes Go.WideShapes Go.ChangeAt Go.RowKit Go.Joins

theorem own : ownKnob Try.prog.godebug = none := by kernel_rfl
theorem laidOut : laidOutB Try.prog = true := by kernel_rfl
theorem cellsD : Try.prog.cellsOf 24 = 2 := by kernel_rfl
theorem row_of_trod {H : Type} {enc : TypeId × Value → H} {W : World} {base : Nat} {spare : Nat → Bool} {held : Bool} {c : Value} (h : ∃ m y, DataW.trod enc Try.prog W base spare held m 22 [c] = some y) :
    ∃ xs, Sl W c xs ∧ xs.length ≤ 9223372036854775807 := by
  obtain ⟨fuel, y, hf⟩ := h
  rcases open_ints Try.underlying22 Try.underlying2 (by kernel_rfl) hf with ⟨hcs, _⟩ | ⟨⟨b, off, spot⟩, l, cp, zs, hcs, _, hl, hm, hz, _, hcell, hwz⟩
  · simp at hcs
    subst hcs
    exact ⟨[], Sl.nil W, by simp⟩
  · simp at hcs
    subst hcs
    simp only [maxLen] at hm
    have hlz : l ≤ zs.length := by rw [hz]; split <;> omega
    have hlt : (zs.take l).length = l := by simp [hlz]
    refine ⟨zs.take l, ⟨some ⟨b, off, spot⟩, cp, by rw [hlt], ?_⟩, by omega⟩
    by_cases h0 : l = 0
    · subst h0; exact .inl rfl
    · have hc0 := hcell 0 (by omega)
      obtain rfl : spot = none := by simpa [Addr.add] using World.cell?_spot hc0
      refine .inr ⟨b, off, rfl, fun j hj => ?_⟩
      rw [hlt] at hj
      have := hcell j (by omega)
      rw [addo] at this
      rw [this]; simp [hj]
end Go.Proofs.Ytmplpoccalccoaa
