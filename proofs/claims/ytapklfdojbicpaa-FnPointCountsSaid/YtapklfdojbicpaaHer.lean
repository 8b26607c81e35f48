/-
  Hermitian matrices as rows of numbers: the plain functions that the program and the reference compute. No program in sight.
-/
import Derived.Test.YtapklfdojbicpaaDbl
import Derived.Test.YtapklfdojbicpaaMem
namespace Go.Proofs.Ytapklfdojbicpaa

def Her.d (X : Her) (i : Nat) : Int := X.dg.getD i 0
def Her.r (X : Her) (i : Nat) : List Int := X.up.getD i []
def isH (p : Int) (n : Nat) (X : Her) : Bool := decide (X.dg.length = 3) && isL p X.dg && (decide (X.up.length = 3) && X.up.all (isE p n))
/-- A hermitian matrix, by its parts. -/
theorem isH_op {p : Int} {n : Nat} {X : Her} (h : isH p n X = true) : ∃ a b c u v t, X = ⟨[a, b, c], [u, v, t]⟩ ∧ 0 ≤ a ∧ a < p ∧ 0 ≤ b ∧ b < p ∧ 0 ≤ c ∧ c < p ∧ Ev p n u ∧ Ev p n v ∧ Ev p n t := by
  obtain ⟨dg, up⟩ := X
  unfold isH at h
  simp only [Bool.and_eq_true, decide_eq_true_eq, isL_fp, List.all_eq_true, isE_iff] at h
  obtain ⟨⟨h1, h2⟩, h3, h4⟩ := h
  match dg, up, h1, h3, h2, h4 with
  | [a, b, c], [u, v, t], _, _, h2, h4 =>
    have ha := h2 a (by simp)
    have hb := h2 b (by simp)
    have hc := h2 c (by simp)
    exact ⟨a, b, c, u, v, t, rfl, ha.1, ha.2, hb.1, hb.2, hc.1, hc.2, h4 u (by simp), h4 v (by simp), h4 t (by simp)⟩
theorem isH_mk {p : Int} {n : Nat} {a b c : Int} {u v t : List Int} (ha : 0 ≤ a ∧ a < p) (hb : 0 ≤ b ∧ b < p) (hc : 0 ≤ c ∧ c < p) (hu : Ev p n u) (hv : Ev p n v) (ht : Ev p n t) : isH p n ⟨[a, b, c], [u, v, t]⟩ = true := by
  unfold isH
  simp only [Bool.and_eq_true, decide_eq_true_eq, isL_fp, List.all_eq_true, isE_iff]
  refine ⟨⟨rfl, fun x hx => ?_⟩, rfl, fun x hx => ?_⟩
  · simp at hx; rcases hx with rfl | rfl | rfl <;> assumption
  · simp at hx; rcases hx with rfl | rfl | rfl <;> assumption
def traceH (p : Int) (X : Her) : Int := (X.d 0 + X.d 1 + X.d 2) % p
/-- An element of the basis. -/
def oneL (n i : Nat) : List Int := (List.replicate n 0).set i 1
def entryH (p : Int) (n : Nat) (X : Her) (i j : Nat) : List Int :=
  if i = j then scaleL p (oneL n 0) (X.d i) else if (i + 1) % 3 = j then X.r (3 - i - j) else conjL p (X.r (3 - i - j))
def eopH (p : Int) (st : List Int) (X Y : Her) (i j : Nat) : List Int :=
  plusL p (plusL p (plusL p (List.replicate (sz st.length) 0) (mulL p st (entryH p (sz st.length) X i 0) (entryH p (sz st.length) Y 0 j)) 1)
    (mulL p st (entryH p (sz st.length) X i 1) (entryH p (sz st.length) Y 1 j)) 1) (mulL p st (entryH p (sz st.length) X i 2) (entryH p (sz st.length) Y 2 j)) 1
def halfH (p : Int) (st : List Int) (X Y : Her) (i j : Nat) : List Int := scaleL p (plusL p (eopH p st X Y i j) (eopH p st Y X i j) 1) (invL p 2)
def jordanH (p : Int) (st : List Int) (X Y : Her) : Her :=
  ⟨[(halfH p st X Y 0 0).getD 0 0, (halfH p st X Y 1 1).getD 0 0, (halfH p st X Y 2 2).getD 0 0], [halfH p st X Y 1 2, halfH p st X Y 2 0, halfH p st X Y 0 1]⟩
def cycL (p : Int) (st x y z : List Int) : Int := 2 * (mulL p st (mulL p st x y) z).getD 0 0 % p
def detH (p : Int) (st : List Int) (X : Her) : Int :=
  (X.d 0 * X.d 1 * X.d 2 + cycL p st (X.r 0) (X.r 1) (X.r 2) - X.d 0 * normL p st (X.r 0) - X.d 1 * normL p st (X.r 1) - X.d 2 * normL p st (X.r 2)) % p
def adjH (p : Int) (st : List Int) (X : Her) : Her :=
  ⟨[(X.d 1 * X.d 2 - normL p st (X.r 0)) % p, (X.d 2 * X.d 0 - normL p st (X.r 1)) % p, (X.d 0 * X.d 1 - normL p st (X.r 2)) % p],
   [plusL p (conjL p (mulL p st (X.r 1) (X.r 2))) (X.r 0) (-X.d 0), plusL p (conjL p (mulL p st (X.r 2) (X.r 0))) (X.r 1) (-X.d 1), plusL p (conjL p (mulL p st (X.r 0) (X.r 1))) (X.r 2) (-X.d 2)]⟩
def sumH (p : Int) (X : Her) (n : Int) (Y : Her) : Her := ⟨plusL p X.dg Y.dg n, [plusL p (X.r 0) (Y.r 0) n, plusL p (X.r 1) (Y.r 1) n, plusL p (X.r 2) (Y.r 2) n]⟩
def multH (p : Int) (X : Her) (n : Int) : Her := ⟨scaleL p X.dg n, [scaleL p (X.r 0) n, scaleL p (X.r 1) n, scaleL p (X.r 2) n]⟩
def unitH (n : Nat) : Her := ⟨[1, 1, 1], [List.replicate n 0, List.replicate n 0, List.replicate n 0]⟩
def numsH (X : Her) : List Int := X.dg ++ X.up.flatten
def isZ (xs : List Int) : Bool := xs.all (· == 0)
def rankH (p : Int) (st : List Int) (X : Her) : Int := if isZ (numsH X) = true then 0 else if isZ (numsH (adjH p st X)) = true then 1 else if detH p st X = 0 then 2 else 3
/-- The code of a doubling with at most three steps, and elements. -/
def chk3 (p : Int) (st : List Int) (xss : List (List Int)) : Int :=
  if isD p st = true then (if 3 < st.length then 3 else if xss.all (isE p (sz st.length)) = true then 0 else 2) else 1
def chkH (p : Int) (st : List Int) (l : List Her) : Int :=
  if isD p st = true then (if 3 < st.length then 3 else if l.all (isH p (sz st.length)) = true then 0 else 2) else 1
end Go.Proofs.Ytapklfdojbicpaa
