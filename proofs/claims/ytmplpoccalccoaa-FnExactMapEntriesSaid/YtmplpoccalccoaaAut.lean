/-
  Automorphisms: the program's test and the reference's are the same. No program in sight.
-/
import Derived.Test.YtmplpoccalccoaaJas
import Derived.Test.YtmplpoccalccoaaLinC
namespace Go.Proofs.Ytmplpoccalccoaa

def applyL (p : Int) (M : List (List Int)) (v : List Int) : List Int := M.map fun r => dotL p r v
theorem dotS_zr : ∀ {x y : List Int}, Zr y → dotS x y = 0
  | [], _, _ => by simp [dotS]
  | _ :: _, [], _ => by simp [dotS]
  | x :: xs, y :: ys, z => by
    have h0 : y = 0 := z 0
    have h1 : Zr ys := fun j => z (j + 1)
    simp only [dotS, h0, dotS_zr h1, Int.mul_zero, Int.add_zero]
theorem dotS_sup : ∀ {x y : List Int} {k : Nat}, Sup k y → dotS x y = x.getD k 0 * y.getD k 0
  | [], _, _, _ => by simp [dotS]
  | _ :: _, [], _, _ => by simp [dotS]
  | x :: xs, y :: ys, 0, z => by
    have h1 : Zr ys := fun j => z (j + 1) (by omega)
    simp only [dotS, dotS_zr h1, List.getD_cons_zero, Int.add_zero]
  | x :: xs, y :: ys, k + 1, z => by
    have h0 : y = 0 := z 0 (by omega)
    have h1 : Sup k ys := fun j hj => z (j + 1) (by omega)
    simp only [dotS, h0, dotS_sup h1, List.getD_cons_succ, Int.mul_zero, Int.zero_add]
theorem apply_sup {p : Int} {M : List (List Int)} {v : List Int} {j : Nat} (h : Sup j v) : applyL p M v = scaleL p (colL M j) (v.getD j 0) := by
  unfold applyL scaleL colL
  rw [List.map_map]
  refine List.map_congr_left fun r _ => ?_
  unfold dotL
  rw [dotS_sup h]; rfl
def autB (p : Int) (st : List Int) (M : List (List Int)) : Bool :=
  ((List.range (sz st.length)).all fun i => (List.range (sz st.length)).all fun k => decide (scaleL p (colL M (i ^^^ k)) (basF p st i k) = mulL p st (colL M i) (colL M k))) && decide ((redL p M).length = sz st.length)
def autK (p : Int) (st : List Int) (M : List (List Int)) : Bool :=
  (detL p M != 0) && ((List.range (sz st.length)).all fun i => (List.range (sz st.length)).all fun k => decide (applyL p M (mulL p st (oneL (sz st.length) i) (oneL (sz st.length) k)) = mulL p st (colL M i) (colL M k)))
theorem aut_eq {p : Int} {st : List Int} {M : List (List Int)} (hd : Dok p st) (hM : matB p (sz st.length) M = true) : autK p st M = autB p st M := by
  obtain ⟨h1, h2⟩ := matB_iff.1 hM
  have hdet := det_red hd.hp (m := sz st.length) h2 h1
  unfold autK autB
  rw [Bool.and_comm]
  congr 1
  · rw [Bool.eq_iff_iff]
    simp only [List.all_eq_true, List.mem_range, decide_eq_true_eq]
    have e : ∀ i, i < sz st.length → ∀ k, k < sz st.length → applyL p M (mulL p st (oneL (sz st.length) i) (oneL (sz st.length) k)) = scaleL p (colL M (i ^^^ k)) (basF p st i k) := fun i hi k hk =>
      apply_sup (mul_sup hd oneL_len oneL_len hi hk one_sup one_sup)
    constructor
    · intro a i hi k hk
      rw [← e i hi k hk]; exact a i hi k hk
    · intro a i hi k hk
      rw [e i hi k hk]; exact a i hi k hk
  · rw [Bool.eq_iff_iff, bne_iff_ne, decide_eq_true_eq]
    exact hdet
end Go.Proofs.Ytmplpoccalccoaa
