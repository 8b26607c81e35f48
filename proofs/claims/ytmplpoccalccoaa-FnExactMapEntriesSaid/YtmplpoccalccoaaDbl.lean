/-
  Elements of a doubling as rows of numbers: conjugates, products, norms; the first number of a product with a conjugate is the norm. No program in sight.
-/
import Derived.Test.YtmplpoccalccoaaRow
namespace Go.Proofs.Ytmplpoccalccoaa

/-- The number of places for so many steps. -/
def sz (n : Nat) : Nat := 2 ^ n
/-- What a doubling is: a prime and steps other than 0. -/
def isD (p : Int) (st : List Int) : Bool := prB p && decide (st.length ≤ 4) && st.all fun s => inR s 1 (p - 1)
theorem isD_iff {p : Int} {st : List Int} : isD p st = true ↔ IsP p ∧ st.length ≤ 4 ∧ ∀ s ∈ st, 1 ≤ s ∧ s ≤ p - 1 := by
  unfold isD inR prB
  simp only [Bool.and_eq_true, decide_eq_true_eq, List.all_eq_true]
  exact ⟨fun ⟨⟨a, b⟩, c⟩ => ⟨a, b, c⟩, fun ⟨a, b, c⟩ => ⟨⟨a, b⟩, c⟩⟩
def isE (p : Int) (n : Nat) (xs : List Int) : Bool := decide (xs.length = n) && isL p xs
theorem isE_iff {p : Int} {n : Nat} {xs : List Int} : isE p n xs = true ↔ xs.length = n ∧ Fp p xs := by simp [isE, isL_fp]
/-- An element of n numbers. -/
def Ev (p : Int) (n : Nat) (xs : List Int) : Prop := xs.length = n ∧ Fp p xs
def conjL (p : Int) (xs : List Int) : List Int := xs.take 1 ++ scaleL p (xs.drop 1) (-1)
theorem conjL_len {p : Int} {xs : List Int} : (conjL p xs).length = xs.length := by
  unfold conjL
  rw [List.length_append, scaleL_len, List.length_take, List.length_drop]; omega
theorem fp_app {p : Int} {xs ys : List Int} (h : Fp p xs) (k : Fp p ys) : Fp p (xs ++ ys) := fun x hx => by
  rcases List.mem_append.1 hx with h1 | h1
  · exact h x h1
  · exact k x h1
theorem fp_take {p : Int} {xs : List Int} (h : Fp p xs) (k : Nat) : Fp p (xs.take k) := fun x hx => h x (List.mem_of_mem_take hx)
theorem fp_drop {p : Int} {xs : List Int} (h : Fp p xs) (k : Nat) : Fp p (xs.drop k) := fun x hx => h x (List.mem_of_mem_drop hx)
theorem conjL_fp {p : Int} {xs : List Int} (hp : 1 ≤ p) (h : Fp p xs) : Fp p (conjL p xs) := fp_app (fp_take h _) (scaleL_fp hp)
theorem Ev.conj {p : Int} {n : Nat} {xs : List Int} (hp : 1 ≤ p) (h : Ev p n xs) : Ev p n (conjL p xs) := ⟨by rw [conjL_len]; exact h.1, conjL_fp hp h.2⟩
/-- The product; the steps from the last one on. -/
def mulR (p : Int) : List Int → List Int → List Int → List Int
  | [], x, y => [x.getD 0 0 * y.getD 0 0 % p]
  | g :: r, x, y => plusL p (mulR p r (x.take (x.length / 2)) (y.take (x.length / 2))) (mulR p r (conjL p (y.drop (x.length / 2))) (x.drop (x.length / 2))) g ++
      plusL p (mulR p r (y.drop (x.length / 2)) (x.take (x.length / 2))) (mulR p r (x.drop (x.length / 2)) (conjL p (y.take (x.length / 2)))) 1
def mulL (p : Int) (st x y : List Int) : List Int := mulR p st.reverse x y
theorem half_len {x : List Int} {n : Nat} (h : x.length = 2 ^ (n + 1)) : x.length / 2 = 2 ^ n := by rw [h, Nat.pow_succ]; omega
theorem mulR_len {p : Int} : ∀ {rs x y : List Int}, x.length = 2 ^ rs.length → y.length = 2 ^ rs.length → (mulR p rs x y).length = 2 ^ rs.length
  | [], x, y, _, _ => rfl
  | g :: r, x, y, hx, hy => by
    have h2 := half_len hx
    have e : x.length = 2 ^ r.length + 2 ^ r.length := by rw [hx, List.length_cons, Nat.pow_succ]; omega
    have e' : y.length = 2 ^ r.length + 2 ^ r.length := by rw [hy, List.length_cons, Nat.pow_succ]; omega
    have l1 : (x.take (2 ^ r.length)).length = 2 ^ r.length := by rw [List.length_take]; omega
    have l2 : (x.drop (2 ^ r.length)).length = 2 ^ r.length := by rw [List.length_drop]; omega
    have l3 : (y.take (2 ^ r.length)).length = 2 ^ r.length := by rw [List.length_take]; omega
    have l4 : (y.drop (2 ^ r.length)).length = 2 ^ r.length := by rw [List.length_drop]; omega
    unfold mulR
    rw [h2, List.length_append, plusL_len, plusL_len, mulR_len l1 l3, mulR_len l4 l1]
    · rw [List.length_cons, Nat.pow_succ]; omega
    · rw [mulR_len l2 (by rw [conjL_len]; exact l3), mulR_len l4 l1]
    · rw [mulR_len (by rw [conjL_len]; exact l4) l2, mulR_len l1 l3]
theorem mulR_fp {p : Int} (hp : 1 ≤ p) : ∀ {rs x y : List Int}, Fp p (mulR p rs x y)
  | [], x, y => fun z hz => by
    simp only [mulR, List.mem_singleton] at hz
    subst hz
    exact mod_fp hp
  | g :: r, x, y => by
    unfold mulR
    exact fp_app (plusL_fp hp) (plusL_fp hp)
theorem mulL_ev {p : Int} {st x y : List Int} (hp : 1 ≤ p) (hx : Ev p (sz st.length) x) (hy : Ev p (sz st.length) y) : Ev p (sz st.length) (mulL p st x y) :=
  ⟨by unfold mulL sz; rw [mulR_len (by rw [List.length_reverse]; exact hx.1) (by rw [List.length_reverse]; exact hy.1), List.length_reverse], mulR_fp hp⟩
theorem scale_neg {p : Int} {xs : List Int} : scaleL p xs (p - 1) = scaleL p xs (-1) := by
  unfold scaleL
  refine List.map_congr_left fun x _ => ?_
  rw [Int.mul_sub, Int.sub_eq_add_neg, Int.add_comm, Int.add_mul_emod_self_right]
  congr 1; omega
theorem plus_scale {p k : Int} : ∀ {xs ys : List Int}, plusL p xs (scaleL p ys k) 1 = plusL p xs ys k
  | [], ys => by simp [plusL]
  | x :: xs, [] => by simp [plusL, scaleL]
  | x :: xs, y :: ys => by
    have := plus_scale (p := p) (k := k) (xs := xs) (ys := ys)
    simp only [plusL, scaleL, List.map_cons, List.zipWith_cons_cons] at this ⊢
    rw [this, Int.one_mul, Int.add_emod_emod, Int.mul_comm y k]
/-! ### Norms -/
end Go.Proofs.Ytmplpoccalccoaa
