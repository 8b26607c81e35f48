/-
  Hermitian matrices by their parts; traces and determinants.
-/
import Derived.Test.YtapklfdojbicpaaHcB
namespace Go.Proofs.Ytapklfdojbicpaa
open Go.RowKit

/-- A matrix that meets the check, cell by cell. -/
theorem Hv.op3 {w : World} {x : Value} {X : Her} {p : Int} {n : Nat} (h : Hv w x X) (hX : isH p n X = true) :
    ∃ a b c u v t bd od cd bu ou cu r s q, X = ⟨[a, b, c], [u, v, t]⟩ ∧ x = .agg #[.slice (some ⟨bd, od, none⟩) 3 cd, .slice (some ⟨bu, ou, none⟩) 3 cu] ∧
      (0 ≤ a ∧ a < p) ∧ (0 ≤ b ∧ b < p) ∧ (0 ≤ c ∧ c < p) ∧ Ev p n u ∧ Ev p n v ∧ Ev p n t ∧
      w.cell? ⟨bd, od, none⟩ = some (.int .i64 a) ∧ w.cell? ⟨bd, od + 1, none⟩ = some (.int .i64 b) ∧ w.cell? ⟨bd, od + 2, none⟩ = some (.int .i64 c) ∧
      w.cell? ⟨bu, ou, none⟩ = some r ∧ w.cell? ⟨bu, ou + 1, none⟩ = some s ∧ w.cell? ⟨bu, ou + 2, none⟩ = some q ∧ El w r u ∧ El w s v ∧ El w q t ∧ (3 ≤ cd ∧ cd ≤ 9223372036854775807) ∧ (3 ≤ cu ∧ cu ≤ 9223372036854775807) := by
  obtain ⟨a, b, c, u, v, t, rfl, h1, h2, h3, h4, h5, h6, eu, ev, et⟩ := isH_op hX
  obtain ⟨d, y, rfl, hd, hy⟩ := h
  obtain ⟨bd, od, cd, rfl, k1, k2, hA⟩ := hd.op1 (by simp)
  obtain ⟨ay, cu, rfl, k3, k4, hR⟩ := hy
  rcases hR with h0 | ⟨bu, ou, rfl, hR⟩
  · simp at h0
  obtain ⟨r, r1, r2⟩ := hR 0 (by simp)
  obtain ⟨s, s1, s2⟩ := hR 1 (by simp)
  obtain ⟨q, q1, q2⟩ := hR 2 (by simp)
  exact ⟨a, b, c, u, v, t, bd, od, cd, bu, ou, cu, r, s, q, rfl, rfl, ⟨h1, h2⟩, ⟨h3, h4⟩, ⟨h5, h6⟩, eu, ev, et, by simpa using hA 0 (by simp), by simpa using hA 1 (by simp), by simpa using hA 2 (by simp), by simpa using r1, s1, q1, r2, s2, q2, ⟨k1, k2⟩, ⟨k3, k4⟩⟩
end Go.Proofs.Ytapklfdojbicpaa
