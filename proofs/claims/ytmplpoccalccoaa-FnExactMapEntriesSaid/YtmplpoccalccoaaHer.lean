/-
  Hermitian matrices as rows of numbers: the plain functions that the program and the reference compute. No program in sight.
-/
import Derived.Test.YtmplpoccalccoaaDbl
import Derived.Test.YtmplpoccalccoaaMem
namespace Go.Proofs.Ytmplpoccalccoaa

def Her.d (X : Her) (i : Nat) : Int := X.dg.getD i 0
def Her.r (X : Her) (i : Nat) : List Int := X.up.getD i []
def isH (p : Int) (n : Nat) (X : Her) : Bool := decide (X.dg.length = 3) && isL p X.dg && (decide (X.up.length = 3) && X.up.all (isE p n))
/-- A hermitian matrix, by its parts. -/
theorem isH_op {p : Int} {n : Nat} {X : Her} (h : isH p n X = true) : ∃ a b c u v t, X = ⟨[a, b, c], [u, v, t]⟩ ∧ 0 ≤ a ∧ a < p ∧ 0 ≤ b ∧ b < p ∧ 0 ≤ c ∧ c < p ∧ Ev p n u ∧ Ev p n v ∧ Ev p n t := by
  obtain ⟨dg, up⟩ := X
  unfold isH at h
  simp only [Bool.and_eq_true, decide_eq_true_eq, isL_fp, List.all_eq_true, isE_iff] at h
  obtain ⟨⟨h1, h2⟩, h3, h4⟩ := h
  match dg, up, h1, h3, h2, h4 with
  | [a, b, c], [u, v, t], _, _, h2, h4 =>
    have ha := h2 a (by simp)
    have hb := h2 b (by simp)
    have hc := h2 c (by simp)
    exact ⟨a, b, c, u, v, t, rfl, ha.1, ha.2, hb.1, hb.2, hc.1, hc.2, h4 u (by simp), h4 v (by simp), h4 t (by simp)⟩
theorem isH_mk {p : Int} {n : Nat} {a b c : Int} {u v t : List Int} (ha : 0 ≤ a ∧ a < p) (hb : 0 ≤ b ∧ b < p) (hc : 0 ≤ c ∧ c < p) (hu : Ev p n u) (hv : Ev p n v) (ht : Ev p n t) : isH p n ⟨[a, b, c], [u, v, t]⟩ = true := by
  unfold isH
  simp only [Bool.and_eq_true, decide_eq_true_eq, isL_fp, List.all_eq_true, isE_iff]
  refine ⟨⟨rfl, fun x hx => ?_⟩, rfl, fun x hx => ?_⟩
  · simp at hx; rcases hx with rfl | rfl | rfl <;> assumption
  · simp at hx; rcases hx with rfl | rfl | rfl <;> assumption
/-- An element of the basis. -/
def oneL (n i : Nat) : List Int := (List.replicate n 0).set i 1
/-- The code of a doubling with at most three steps, and elements. -/
def chk3 (p : Int) (st : List Int) (xss : List (List Int)) : Int :=
  if isD p st = true then (if 3 < st.length then 3 else if xss.all (isE p (sz st.length)) = true then 0 else 2) else 1
def chkH (p : Int) (st : List Int) (l : List Her) : Int :=
  if isD p st = true then (if 3 < st.length then 3 else if l.all (isH p (sz st.length)) = true then 0 else 2) else 1
end Go.Proofs.Ytmplpoccalccoaa
