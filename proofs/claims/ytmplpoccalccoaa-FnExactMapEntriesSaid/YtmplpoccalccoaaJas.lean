/- Texts joined for a claim: DbU, TriB. -/
import Derived.Test.YtmplpoccalccoaaDbT
import Derived.Test.YtmplpoccalccoaaPla
/-
  The reference's norm and cyclic form.
-/
namespace Go.Proofs.Ytmplpoccalccoaa
open Go.RowKit

end Go.Proofs.Ytmplpoccalccoaa
/-
  The cyclic form of elements of the basis; isometries and skew matrices. No program in sight.
-/
namespace Go.Proofs.Ytmplpoccalccoaa

def basF (p : Int) (st : List Int) (i j : Nat) : Int := (mulL p st (oneL (sz st.length) i) (oneL (sz st.length) j)).getD (i ^^^ j) 0
section
variable {p : Int} {st : List Int} {i j k : Nat}
theorem Ev.unit1 (hp : 2 ≤ p) {n i : Nat} : Ev p n (oneL n i) := ⟨oneL_len, oneL_fp hp⟩
theorem mul_sup {x y : List Int} (hd : Dok p st) (hx : x.length = sz st.length) (hy : y.length = sz st.length) (hi : i < sz st.length) (hj : j < sz st.length) (zx : Sup i x) (zy : Sup j y) : Sup (i ^^^ j) (mulL p st x y) := by
  have hl : st.reverse.length = st.length := List.length_reverse
  unfold mulL
  unfold sz at hx hy hi hj
  exact mulR_sup (by rw [hl]; exact hd.hl) (by rw [hl]; exact hx) (by rw [hl]; exact hy) (by rw [hl]; exact hi) (by rw [hl]; exact hj) zx zy
theorem xor_lt (hi : i < sz st.length) (hj : j < sz st.length) : i ^^^ j < sz st.length := Nat.xor_lt_two_pow hi hj
theorem basF_fp (hd : Dok p st) : 0 ≤ basF p st i j ∧ basF p st i j < p := by
  have hp1 := hd.hp.lo
  exact (mulL_ev (p := p) (st := st) (by omega) (Ev.unit1 (by omega)) (Ev.unit1 (by omega))).2.g0 (by omega) _
end
/-! ### Columns, isometries, skew matrices -/
def colL (M : List (List Int)) (i : Nat) : List Int := M.map fun r => r.getD i 0
def matB (p : Int) (n : Nat) (M : List (List Int)) : Bool := decide (M.length = n) && M.all (isE p n)
theorem matB_iff {p : Int} {n : Nat} {M : List (List Int)} : matB p n M = true ↔ M.length = n ∧ ∀ r ∈ M, Ev p n r := by
  unfold matB Ev
  simp [isE_iff]
theorem colL_ev {p : Int} {n : Nat} {M : List (List Int)} (hp : 1 ≤ p) (h : matB p n M = true) (i : Nat) : Ev p n (colL M i) := by
  obtain ⟨h1, h2⟩ := matB_iff.1 h
  refine ⟨by unfold colL; rw [List.length_map]; exact h1, fun x hx => ?_⟩
  obtain ⟨r, hr, rfl⟩ := List.mem_map.1 hx
  exact (h2 r hr).2.g0 (by omega) i
end Go.Proofs.Ytmplpoccalccoaa
