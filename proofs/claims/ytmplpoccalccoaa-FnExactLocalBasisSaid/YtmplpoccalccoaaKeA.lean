/-
  The kernel of rows of numbers, as rows. No program in sight.
-/
import Derived.Test.YtmplpoccalccoaaJbe
namespace Go.Proofs.Ytmplpoccalccoaa

/-- The place of the row with the lead k. -/
def ldI (R : List (List Int)) (k : Nat) : Nat := R.findIdx fun r => leadN r == k
/-- Which places are leads. -/
def ldB (R : List (List Int)) (k : Nat) : Bool := R.any fun r => leadN r == k
/-- The vector of a free place f, where the places in S are set. -/
def kerS (p : Int) (m : Nat) (R : List (List Int)) (f : Nat) (S : Nat → Bool) : List Int :=
  (List.range m).map fun j => if S j = true then (-((R.getD (ldI R j) []).getD f 0)) % p else if j = f then 1 else 0
def kerO (p : Int) (m : Nat) (R : List (List Int)) : Nat → List (List Int)
  | 0 => []
  | c + 1 => if ldB R c = true then kerO p m R c else kerO p m R c ++ [kerS p m R c (ldB R)]
def kerL (p : Int) (m : Nat) (L : List (List Int)) : List (List Int) := redL p (kerO p m (redL p L) m)
section
variable {p : Int} {m f : Nat} {R L : List (List Int)} {S T : Nat → Bool}
theorem kerS_len : (kerS p m R f S).length = m := by simp [kerS]
theorem kerS_congr (h : ∀ j, j < m → S j = T j) : kerS p m R f S = kerS p m R f T :=
  List.map_congr_left fun j hj => by rw [h j (List.mem_range.1 hj)]
theorem kerS_start (_ : f < m) : (List.replicate m (0 : Int)).set f 1 = kerS p m R f (fun _ => false) := by
  refine List.ext_getElem (by simp [kerS]) fun i h1 h2 => ?_
  rw [List.getElem_set]
  simp only [kerS, List.getElem_map, List.getElem_range, List.getElem_replicate, Bool.false_eq_true, if_false]
  by_cases h : f = i
  · rw [if_pos h, if_pos h.symm]
  · rw [if_neg h, if_neg (fun e => h e.symm)]
theorem kerS_set {j : Nat} : (kerS p m R f S).set j ((-((R.getD (ldI R j) []).getD f 0)) % p) = kerS p m R f (fun k => S k || k == j) := by
  refine List.ext_getElem (by simp [kerS]) fun i h1 h2 => ?_
  rw [List.getElem_set]
  simp only [kerS, List.getElem_map, List.getElem_range]
  by_cases h : j = i
  · subst h; simp
  · have h2 : (i == j) = false := by rw [beq_eq_false_iff_ne]; exact fun e => h e.symm
    rw [if_neg h, h2, Bool.or_false]
theorem kerS_ev (hp : 2 ≤ p) : Ev p m (kerS p m R f S) := by
  refine ⟨kerS_len, fun x hx => ?_⟩
  obtain ⟨j, _, rfl⟩ := List.mem_map.1 hx
  split
  · exact ⟨Int.emod_nonneg _ (by omega), Int.emod_lt_of_pos _ (by omega)⟩
  · split <;> omega
theorem kerO_rw (hp : 2 ≤ p) : ∀ c, Rw p m (kerO p m R c)
  | 0 => fun r h => by cases h
  | c + 1 => by
    unfold kerO
    split
    · exact kerO_rw hp c
    · exact (kerO_rw hp c).app (fun r h => by rw [List.mem_singleton.1 h]; exact kerS_ev hp)
theorem kerO_len : ∀ c, (kerO p m R c).length ≤ c
  | 0 => Nat.le_refl _
  | c + 1 => by
    have := kerO_len c
    unfold kerO
    split
    · omega
    · rw [List.length_append]; simp; omega
theorem ldI_row (h : Rref p m R) {i : Nat} (hi : i < R.length) : ldI R (leadN R[i]) = i := by
  unfold ldI
  rw [List.findIdx_eq hi]
  refine ⟨by simp, fun j hj => ?_⟩
  have := List.pairwise_iff_getElem.1 h.pw j i (by omega) hi hj
  rw [beq_eq_false_iff_ne]; omega
theorem ldB_iff {k : Nat} : ldB R k = true ↔ ∃ i, ∃ h : i < R.length, leadN R[i] = k := by
  unfold ldB
  rw [List.any_eq_true]
  constructor
  · rintro ⟨r, hr, e⟩
    obtain ⟨i, hi, rfl⟩ := List.mem_iff_getElem.1 hr
    exact ⟨i, hi, by simpa using e⟩
  · rintro ⟨i, hi, e⟩
    exact ⟨R[i], List.getElem_mem hi, by simpa using e⟩
theorem ldB_row {i : Nat} (hi : i < R.length) : ldB R (leadN R[i]) = true := ldB_iff.2 ⟨i, hi, rfl⟩
theorem kerL_rref (hp : IsP p) : Rref p m (kerL p m L) := (redL_rref hp (kerO_rw (by have := hp.lo; omega) m)).1
theorem kerL_basis (hp : IsP p) (hL : Rw p m L) : basisL p m (kerO p m (basisL p m L) m) = kerL p m L := by
  have h2 : 2 ≤ p := by have := hp.lo; omega
  rw [basis_red hp (kerO_rw h2 m), basis_red hp hL]; rfl
theorem kerL_same {L' : List (List Int)} (hp : IsP p) (hL : Rw p m L) (hL' : Rw p m L') (h : SameS p m L L') : kerL p m L = kerL p m L' := by
  have h2 : 2 ≤ p := by have := hp.lo; omega
  have e1 := redL_rref hp hL
  have e2 := redL_rref hp hL'
  unfold kerL
  rw [Rref.uniq h2 e1.1 e2.1 (e1.2.tr (h.tr e2.2.sy))]
end
end Go.Proofs.Ytmplpoccalccoaa
