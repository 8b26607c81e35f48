/-
  What the last step of each claim over hermitian matrices shares: reading rows, and rows of rows.
-/
import Derived.Test.YtfcdhdkhfdhjfaaLawH
import Derived.ProofKit
import Derived.OpenShut
import Derived.ShutString
import Derived.ChangeOld
import Derived.Below
import Derived.Lib.SmallJoins
import Derived.Deep.Matrix
namespace Go.Proofs.Ytfcdhdkhfdhjfaa
open Go.ChangeShapes Go.WideShapes Go.ChangeAt Go.RowKit Go.Joins

theorem own : ownKnob Try.prog.godebug = none := by kernel_rfl
theorem laidOut : laidOutB Try.prog = true := by kernel_rfl
theorem cellsD : Try.prog.cellsOf 24 = 2 := by kernel_rfl
theorem row_of_trod {H : Type} {enc : TypeId × Value → H} {W : World} {base : Nat} {spare : Nat → Bool} {held : Bool} {c : Value} (h : ∃ m y, DataW.trod enc Try.prog W base spare held m 22 [c] = some y) :
    ∃ xs, Sl W c xs ∧ xs.length ≤ 9223372036854775807 := by
  obtain ⟨fuel, y, hf⟩ := h
  rcases open_ints Try.underlying22 Try.underlying2 (by kernel_rfl) hf with ⟨hcs, _⟩ | ⟨⟨b, off, spot⟩, l, cp, zs, hcs, _, hl, hm, hz, _, hcell, hwz⟩
  · simp at hcs
    subst hcs
    exact ⟨[], Sl.nil W, by simp⟩
  · simp at hcs
    subst hcs
    simp only [maxLen] at hm
    have hlz : l ≤ zs.length := by rw [hz]; split <;> omega
    have hlt : (zs.take l).length = l := by simp [hlz]
    refine ⟨zs.take l, ⟨some ⟨b, off, spot⟩, cp, by rw [hlt], ?_⟩, by omega⟩
    by_cases h0 : l = 0
    · subst h0; exact .inl rfl
    · have hc0 := hcell 0 (by omega)
      obtain rfl : spot = none := by simpa [Addr.add] using World.cell?_spot hc0
      refine .inr ⟨b, off, rfl, fun j hj => ?_⟩
      rw [hlt] at hj
      have := hcell j (by omega)
      rw [addo] at this
      rw [this]; simp [hj]
theorem rows_of_trod {H : Type} {enc : TypeId × Value → H} {W : World} {base : Nat} {held : Bool} {c : Value} (h : ∃ m y, DataW.trod enc Try.prog W base (fun _ => true) held m 25 [c] = some y) :
    ∃ xss, Rs W c xss ∧ xss.length ≤ 9223372036854775807 ∧ ∀ xs ∈ xss, xs.length ≤ 9223372036854775807 := by
  obtain ⟨fuel, y, hf⟩ := h
  rcases Go.Deep.open_int_rows Try.underlying25 Try.underlying22 Try.underlying2 (by kernel_rfl) (by kernel_rfl) hf with ⟨hcs, _⟩ | ⟨⟨b, off, spot⟩, len, cap, A, L, C, Z, hcs, _, hl, hm, _, hr⟩
  · simp at hcs
    subst hcs
    exact ⟨[], ⟨none, 0, rfl, .inl rfl⟩, by simp, by simp⟩
  · simp at hcs
    subst hcs
    simp only [maxLen] at hm hr
    have hlen : ((List.range len).map fun r => (Z r).take (L r)).length = len := by simp
    refine ⟨(List.range len).map fun r => (Z r).take (L r), ⟨some ⟨b, off, spot⟩, cap, by rw [hlen], ?_⟩, by rw [hlen]; omega, fun xs hx => ?_⟩
    · by_cases h0 : len = 0
      · subst h0; exact .inl rfl
      · have hc0 := (hr 0 (by omega)).1
        obtain rfl : spot = none := by simpa [Addr.add] using World.cell?_spot hc0
        refine .inr ⟨b, off, rfl, fun j hj => ?_⟩
        rw [hlen] at hj
        obtain ⟨h1, h2, h3, h4, h5, h6, h7⟩ := hr j (by omega)
        rw [addo] at h1
        refine ⟨_, h1, ?_⟩
        have e : ((List.range len).map fun r => (Z r).take (L r))[j]'(by rw [hlen]; exact hj) = (Z j).take (L j) := by simp
        rw [e]
        have hlj : ((Z j).take (L j)).length = L j := by rw [List.length_take]; omega
        refine ⟨A j, C j, by rw [hlj], ?_⟩
        by_cases hz : L j = 0
        · left; rw [hz]; rfl
        · right
          cases hA : A j with
          | none => have := h6 hA; omega
          | some a' =>
            obtain ⟨b', off', spot'⟩ := a'
            have hcell := (h7 _ hA).2
            obtain rfl : spot' = none := by simpa [Addr.add] using World.cell?_spot (hcell 0 (by omega))
            refine ⟨b', off', rfl, fun q hq => ?_⟩
            rw [hlj] at hq
            have := hcell q (by omega)
            rw [addo] at this
            rw [this]; simp [hq]
    · obtain ⟨r, hr1, rfl⟩ := List.mem_map.1 hx
      have hr2 := List.mem_range.1 hr1
      obtain ⟨_, h2, h3, h4, _⟩ := hr r (by omega)
      rw [List.length_take]; omega
end Go.Proofs.Ytfcdhdkhfdhjfaa
