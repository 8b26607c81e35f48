/- Texts joined for a claim: LinF, LinG. -/
import Derived.Test.YtmplpoccalccoaaJbc
/-
  Rows that are changed in place; copies of rows; reduced rows by the program.
-/
namespace Go.Proofs.Ytmplpoccalccoaa
open Go.RowKit

section
variable {w w' : World} {B g n cap : Nat} {v u : Value} {us : List Value} {xss : List (List Int)} {xs : List Int}
theorem OwV.row (h : OwV w B (.slice (some ⟨g, 0, none⟩) n cap) us) : ∃ cur, w.heap[g]? = some (.cells cur 22 (0, 0)) ∧ cur.size = cap ∧ cur.toList.take us.length = us ∧ us.length = n ∧ n ≤ cap ∧ cap ≤ maxLen ∧ B ≤ g := by
  rcases h.2 with h2 | ⟨g', cap', cur, hv, hg', hh, h3, h4, h5, h6⟩
  · cases h2.1
  · cases hv; exact ⟨cur, hh, by simpa using h5, by simpa using h6, rfl, by omega, h4, hg'⟩
theorem OwV.form (h : OwV w B (.slice (some ⟨g, 0, none⟩) n cap) us) : us.length = n := by
  obtain ⟨_, _, _, _, h, _⟩ := h.row; exact h
theorem OwV.mk_ {cur : Array Value} (hB : B ≤ g) (hg : w.heap[g]? = some (.cells cur 22 (0, 0))) (hc : cur.size = cap) (ht : cur.toList.take us.length = us) (hn : us.length ≤ cap) (hm : cap ≤ maxLen) : OwV w B (.slice (some ⟨g, 0, none⟩) us.length cap) us :=
  ⟨by simp, .inr ⟨g, cap, cur, rfl, hB, hg, hn, hm, by simpa using hc, by simpa using ht⟩⟩
theorem OwV.cell (h : OwV w B (.slice (some ⟨g, 0, none⟩) n cap) us) {j : Nat} (hj : j < us.length) : w.cell? ⟨g, j, none⟩ = some us[j] := by
  have := World.ownsRow.cells h (g := g) rfl j (us[j]'(by omega)) (by simp)
  rwa [addz] at this
theorem OwV.free (h : OwV w B (.slice (some ⟨g, 0, none⟩) n cap) us) (i : Nat) : w.frozen? ⟨g, i, none⟩ = false := by
  obtain ⟨cur, hh, _⟩ := h.row
  simp [World.frozen?, hh]
theorem OwV.set (h : OwV w B (.slice (some ⟨g, 0, none⟩) n cap) us) (i : Nat) (u : Value) : OwV (w.setCell ⟨g, i, none⟩ u) B (.slice (some ⟨g, 0, none⟩) n cap) (us.set i u) := by
  obtain ⟨cur, hh, hc, ht, hl, hn, hm, hB⟩ := h.row
  have h2 := OwV.mk_ (w := w.setCell ⟨g, i, none⟩ u) (us := us.set i u) (cur := cur.setIfInBounds i u) hB (by simp [World.setCell, Array.getElem?_modify, hh]) (by simpa using hc) (by
    rw [List.length_set, Array.toList_setIfInBounds, List.take_set, ht]) (by rw [List.length_set]; omega) hm
  rwa [List.length_set, hl] at h2
theorem RowsF.set (h : RowsF w B us xss) (hu : FrI w B u xs) (i : Nat) : RowsF w B (us.set i u) (xss.set i xs) := by
  refine ⟨by simp [h.1], fun j a b => ?_⟩
  rw [List.getElem_set, List.getElem_set]
  split
  · exact hu
  · exact h.2 j (by simpa using a) (by simpa using b)
/-- A row by its place. -/
theorem row_at {p : Int} {m j : Nat} (ho : OwV w B (.slice (some ⟨g, 0, none⟩) n cap) us) (hr : RowsF w B us xss) (hw : Rw p m xss) (hj : j < xss.length) :
    ∃ gj cj, us.getD j undef = .slice (some ⟨gj, 0, none⟩) m cj ∧ w.cell? ⟨g, j, none⟩ = some (.slice (some ⟨gj, 0, none⟩) m cj) ∧ FrI w B (.slice (some ⟨gj, 0, none⟩) m cj) (xss.getD j []) ∧
      (∀ k < m, w.cell? ⟨gj, k, none⟩ = some (.int .i64 ((xss.getD j []).getD k 0))) := by
  have hl := hr.1
  have hf := hr.2 j (by omega) hj
  have hx : xss.getD j [] = xss[j] := by simp [List.getD_eq_getElem?_getD, hj]
  have hlen := (hw _ (List.getElem_mem hj)).1
  have hcell := ho.cell (j := j) (by omega)
  have hu : us.getD j undef = us[j]'(by omega) := by simp [List.getD_eq_getElem?_getD, show j < us.length by omega]
  obtain ⟨gj, cj, e, hO⟩ := hf
  rw [hlen] at e hO
  refine ⟨gj, cj, by rw [hu, e], by rw [hcell, e], ?_, fun k hk => ?_⟩
  · rw [hx]; exact hO.fr
  · rw [hx]; exact hO.hold hk
end
/-! ### The columns -/
section
variable {p : Int} {k d r j : Nat} {w : List Int} {X A B : List (List Int)}
end
/-! ### The program's reduced rows -/
section
variable {p : Int} {m k : Nat} {A B L : List (List Int)}
end
end Go.Proofs.Ytmplpoccalccoaa
/-
  Reduced rows by the program: the walk.
-/
namespace Go.Proofs.Ytmplpoccalccoaa
open Go.RowKit

theorem RowsF.part {w : World} {B g n cap : Nat} {us : List Value} {A C : List (List Int)} (hr : RowsF w B us (A ++ C)) (ho : OwV w B (.slice (some ⟨g, 0, none⟩) n cap) us) : Re w (.slice (some ⟨g, 0, none⟩) A.length cap) A := by
  obtain ⟨cur, _, _, _, hl, hn, hm, _⟩ := ho.row
  have h1 := hr.1
  rw [List.length_append] at h1
  simp only [maxLen] at hm
  refine ⟨_, cap, rfl, by omega, by omega, .inr ⟨g, 0, rfl, fun j hj => ⟨us[j]'(by omega), ?_, ?_⟩⟩⟩
  · rw [Nat.zero_add]; exact ho.cell (by omega)
  · have := hr.2 j (by omega) (by rw [List.length_append]; omega)
    rw [List.getElem_append_left hj] at this
    exact this.el
end Go.Proofs.Ytmplpoccalccoaa
